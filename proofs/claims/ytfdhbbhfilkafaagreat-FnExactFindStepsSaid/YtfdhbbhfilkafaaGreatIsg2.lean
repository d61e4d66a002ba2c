/- IsGraph of the program and of the reference: the walks. -/
import Derived.Test.YtfdhbbhfilkafaaGreatIsg
namespace Go.Proofs.YtfdhbbhfilkafaaGreat
open Go.RowKit
set_option maxRecDepth 100000
set_option linter.unusedVariables false
set_option linter.unusedSimpArgs false

set_option maxHeartbeats 8000000 in
theorem specIsGraph_at (W : World) (p : Int) (a : Option Addr) (cap : Nat) (l : List BarT) (h : BarsAt W a l.length l) (hn : l.length ≤ 1099511627776) :
    Calls Tryz.prog 59 #[.agg #[.int .i64 p, .slice a l.length cap]] W fun e w' => e = .returned (.bool (isGraphB (p, l))) ∧ Below W.heap.size W w' := by
  have hwd := @Wd.cells
  have HH := Lib.hid h
  clear h
  generalize hL : l.length = n at *
  have HL := Lib.hid hL
  clear hL
  have HB0 : Hid (Below W.heap.size W (W.alloc (.cells #[.int .i64 p, .slice a n cap] 26))) := (Below.refl _ _).alloc (Nat.le_refl _) _
  cases h1 : inB p 1 8
  · have HF := Lib.hid (ret_bool (show isGraphB (p, l) = false by simp [isGraphB, h1]))
    go_enter Tryz.func59, Tryz.ntmps59
    go_wp2_with (go_at_call 60; refine (l1In_any _ _ _ _).mono ?_; rintro e w' ⟨rfl, rfl⟩)
    go_ret
    exact ⟨HF.out.symm, HB0.out⟩
  by_cases h24 : 24 < n
  · have HF := Lib.hid (ret_bool (show isGraphB (p, l) = false by have := HL.out; simp [isGraphB, h1]; omega))
    go_enter Tryz.func59, Tryz.ntmps59
    go_wp2_with (go_at_call 60; refine (l1In_any _ _ _ _).mono ?_; rintro e w' ⟨rfl, rfl⟩)
    go_ret
    exact ⟨HF.out.symm, HB0.out⟩
  have hp : 1 ≤ p ∧ p ≤ 8 := by simp [inB] at h1; omega
  obtain ⟨hp1, hp8⟩ := hp
  go_enter Tryz.func59, Tryz.ntmps59
  go_wp2_with (go_at_call 60; refine (l1In_any _ _ _ _).mono ?_; rintro e w' ⟨rfl, rfl⟩)
  obtain ⟨W0, hW0⟩ : ∃ W0, W0 = W.alloc (.cells #[.int .i64 p, .slice a n cap] 26) := ⟨_, rfl⟩
  rw [← hW0]
  have hs0 : W0.heap.size = W.heap.size + 1 := by rw [hW0]; simp
  have g0 : W0.cell? ⟨W.heap.size, 0, none⟩ = some (.int .i64 p) := by rw [hW0]; simp [World.cell?_alloc_new]
  have g1 : W0.cell? ⟨W.heap.size, 1, none⟩ = some (.slice a n cap) := by rw [hW0]; simp [World.cell?_alloc_new]
  rw [← hW0] at HB0
  have HC := Lib.hid (HH.out.below HB0.out).2
  have HS0 := Lib.hid hs0
  have hs1 : W.heap.size < W0.heap.size := by omega
  clear hs0 hW0
  go_loopw [3] (fun i wr => ∃ k : Nat, k ≤ n ∧ i = .int .i64 k ∧ (List.range k).all (barAt p l) = true ∧ Below W0.heap.size W0 wr) (fun i _ => n - (intOf i).toNat)
  case atStart => exact ⟨0, Nat.zero_le _, rfl, by simp, Below.refl _ _⟩
  case round =>
    obtain ⟨k, hk, rfl, hall, hb⟩ := hrel
    have HA := Lib.hid hall
    clear hall
    have g0' := (hb.cell (p := ⟨W.heap.size, 0, none⟩) hs1).trans g0
    have g1' := (hb.cell (p := ⟨W.heap.size, 1, none⟩) hs1).trans g1
    have hbz := hb.size
    have hq1 : W.heap.size < wr.heap.size := by omega
    have hq2 : W.heap.size ≤ wr.heap.size := by omega
    have hq3 : W.heap.size < wr.heap.size + 1 := by omega
    have hkl : k < n → k < l.length := fun hh => by have := HL.out; omega
    by_cases hlt : k < n
    · obtain ⟨b, off, ⟨x1, x2⟩, rfl, hbl, hx, hc0, hc1⟩ := HC.out k hlt
      dsimp only at hc0 hc1
      have HX := Lib.hid hx
      have d0 := (hb.cell (p := ⟨b, off + k * 2, none⟩) hbl).trans hc0
      have d1 := (hb.cell (p := ⟨b, off + k * 2 + 1, none⟩) hbl).trans hc1
      have hr1 : b < wr.heap.size := by omega
      have hr2 : b ≤ wr.heap.size := by omega
      have hr3 : b < wr.heap.size + 1 := by omega
      clear hc0 hc1 hx g0 g1
      by_cases e1 : x1 < 0
      · have hd1 : decide (x1 < 0) = true := decide_eq_true e1
        have HF := Lib.hid (ret_bool (isGraph_not (p := p) (k := k) (hkl hlt) (by simp only [barAt, HX.out]; simp; omega)))
        go_wp2_with fail
        refine wp_region_wd (by kernel_rfl) (by kernel_rfl) ?_
        repeat (go_big_quiet_step ((first | (go_at_call 117; exact Calls.wd_of (l2After_any _ _ _ _ _)))))
        refine wpQuiet_nil ?_
        intro n1
        have hbn : Below W0.heap.size W0 n1.w := (hb.alloc hb.size _).trans (n1.h.mono (by simp; omega))
        go_wp2_with fail
        go_ret
        exact ⟨HF.out.symm, HB0.out.trans (hbn.mono (by omega))⟩
      by_cases e2 : x2 ≤ x1
      · have hd1 : decide (x1 < 0) = false := decide_eq_false e1
        have HF := Lib.hid (ret_bool (isGraph_not (p := p) (k := k) (hkl hlt) (by simp only [barAt, HX.out]; simp; omega)))
        go_wp2_with fail
        refine wp_region_wd (by kernel_rfl) (by kernel_rfl) ?_
        repeat (go_big_quiet_step ((first | (go_at_call 117; exact Calls.wd_of (l2After_any _ _ _ _ _)))))
        refine wpQuiet_nil ?_
        intro n1
        have hbn : Below W0.heap.size W0 n1.w := (hb.alloc hb.size _).trans (n1.h.mono (by simp; omega))
        go_wp2_with fail
        go_ret
        exact ⟨HF.out.symm, HB0.out.trans (hbn.mono (by omega))⟩
      by_cases e3 : p ≤ x2
      · have hd1 : decide (x1 < 0) = false := decide_eq_false e1
        have hd2 : decide (x2 ≤ x1) = false := decide_eq_false e2
        have HF := Lib.hid (ret_bool (isGraph_not (p := p) (k := k) (hkl hlt) (by simp only [barAt, HX.out]; simp; omega)))
        go_wp2_with fail
        refine wp_region_wd (by kernel_rfl) (by kernel_rfl) ?_
        repeat (go_big_quiet_step ((first | (go_at_call 117; exact Calls.wd_of (l2After_any _ _ _ _ _)))))
        refine wpQuiet_nil ?_
        intro n1
        have hbn : Below W0.heap.size W0 n1.w := (hb.alloc hb.size _).trans (n1.h.mono (by simp; omega))
        go_wp2_with fail
        go_ret
        exact ⟨HF.out.symm, HB0.out.trans (hbn.mono (by omega))⟩
      have hd1 : decide (x1 < 0) = false := decide_eq_false e1
      have hd2 : decide (x2 ≤ x1) = false := decide_eq_false e2
      have hd3 : decide (p ≤ x2) = false := decide_eq_false e3
      by_cases hk0 : k = 0
      · subst hk0
        have hat : barAt p l 0 = true := by simp only [barAt, HX.out]; simp; omega
        have HAT := Lib.hid hat
        clear hat
        simp only [Nat.zero_mul, Nat.add_zero] at d0 d1
        go_wp2_with fail
        refine wp_region_wd (by kernel_rfl) (by kernel_rfl) ?_
        repeat (go_big_quiet_step ((first | (go_at_call 117; exact Calls.wd_of (l2After_any _ _ _ _ _)))))
        refine wpQuiet_nil ?_
        intro n1
        have hbn : Below W0.heap.size W0 n1.w := (hb.alloc hb.size _).trans (n1.h.mono (by simp; omega))
        go_wp2_with fail
        go_roundw
        case rel => exact ⟨1, by omega, by go_num, by simp [List.range_succ, HAT.out], hbn⟩
        case measure => simp [intOf]; omega
      · obtain ⟨b2, off2, ⟨y1, y2⟩, hab, hbl2, hy, hy0, hy1⟩ := HC.out (k - 1) (by omega)
        simp only [Option.some.injEq, Addr.mk.injEq, and_true] at hab
        obtain ⟨rfl, rfl⟩ := hab
        dsimp only at hy0 hy1
        have HY := Lib.hid hy
        have t0 := (hb.cell (p := ⟨b, off + (k - 1) * 2, none⟩) hbl).trans hy0
        have t1 := (hb.cell (p := ⟨b, off + (k - 1) * 2 + 1, none⟩) hbl).trans hy1
        clear hy hy0 hy1
        have hk1 : (0 : Int) < (k : Int) := by omega
        have hdk : decide ((0 : Int) < (k : Int)) = true := decide_eq_true hk1
        have hdk2 : decide (0 < k) = true := decide_eq_true (by omega)
        have hkm1 : (0 : Int) ≤ (k : Int) - 1 := by omega
        have hkm2 : (k : Int) - 1 < (n : Int) := by omega
        cases e4 : barLe (y1, y2) (x1, x2)
        · have HF := Lib.hid (ret_bool (isGraph_not (p := p) (k := k) (hkl hlt) (by simp only [barAt, HX.out, HY.out, e4]; simp [hk0])))
          have hcmp : (0 : Int) < cmpB (y1, y2) (x1, x2) := (cmpB_le _ _).2 e4
          go_wp2_with fail
          refine wp_region_wd (by kernel_rfl) (by kernel_rfl) ?_
          repeat (go_big_quiet_step ((first | (go_at_call 117; exact Calls.wd_of (l2After_any _ _ _ _ _)))))
          refine wpQuiet_nil ?_
          intro n1
          have hbn : Below W0.heap.size W0 n1.w := (hb.alloc hb.size _).trans (n1.h.mono (by simp; omega))
          go_wp2_with fail
          go_ret
          exact ⟨HF.out.symm, HB0.out.trans (hbn.mono (by omega))⟩
        · have hcmp : ¬ (0 : Int) < cmpB (y1, y2) (x1, x2) := fun hh => by have := (cmpB_le _ _).1 hh; rw [e4] at this; cases this
          have hcmpd : decide ((0 : Int) < cmpB (y1, y2) (x1, x2)) = false := decide_eq_false hcmp
          have hat : barAt p l k = true := by simp only [barAt, HX.out, HY.out, e4]; simp; omega
          have HAT := Lib.hid hat
          clear hat
          go_wp2_with fail
          refine wp_region_wd (by kernel_rfl) (by kernel_rfl) ?_
          repeat (go_big_quiet_step ((first | (go_at_call 117; exact Calls.wd_of (l2After_any _ _ _ _ _)))))
          refine wpQuiet_nil ?_
          intro n1
          have hbn : Below W0.heap.size W0 n1.w := (hb.alloc hb.size _).trans (n1.h.mono (by simp; omega))
          go_wp2_with fail
          go_roundw
          case rel => exact ⟨k + 1, by omega, by go_num, range_all_succ HA.out HAT.out, hbn⟩
          case measure => simp [intOf]; omega
    · obtain rfl : k = n := by omega
      have HF := Lib.hid (ret_bool (show isGraphB (p, l) = true by
        have h2 := HA.out
        have h3 := HL.out
        simp only [isGraphB, barsOk, h3, h2, h1, Bool.true_and, Bool.and_true, decide_eq_true_eq]
        omega))
      go_wp2_with fail
      go_ret
      exact ⟨HF.out.symm, HB0.out.trans (hb.mono (by omega))⟩

set_option maxHeartbeats 8000000 in
theorem implIsGraph_at (W : World) (p : Int) (a : Option Addr) (cap : Nat) (l : List BarT) (h : BarsAt W a l.length l) (hn : l.length ≤ 1099511627776) :
    Calls Tryz.prog 69 #[.agg #[.int .i64 p, .slice a l.length cap]] W fun e w' => e = .returned (.bool (isGraphB (p, l))) ∧ Below W.heap.size W w' := by
  have hwd := @Wd.cells
  have HH := Lib.hid h
  clear h
  generalize hL : l.length = n at *
  have HL := Lib.hid hL
  clear hL
  have HB0 : Hid (Below W.heap.size W (W.alloc (.cells #[.int .i64 p, .slice a n cap] 26))) := (Below.refl _ _).alloc (Nat.le_refl _) _
  cases h1 : inB p 1 8
  · have HF := Lib.hid (ret_bool (show isGraphB (p, l) = false by simp [isGraphB, h1]))
    go_enter Tryz.func69, Tryz.ntmps69
    go_wp2_with (go_at_call 55; refine (within_any _ _ _ _).mono ?_; rintro e w' ⟨rfl, rfl⟩)
    go_ret
    exact ⟨HF.out.symm, HB0.out⟩
  by_cases h24 : 24 < n
  · have HF := Lib.hid (ret_bool (show isGraphB (p, l) = false by have := HL.out; simp [isGraphB, h1]; omega))
    go_enter Tryz.func69, Tryz.ntmps69
    go_wp2_with (go_at_call 55; refine (within_any _ _ _ _).mono ?_; rintro e w' ⟨rfl, rfl⟩)
    go_ret
    exact ⟨HF.out.symm, HB0.out⟩
  have hp : 1 ≤ p ∧ p ≤ 8 := by simp [inB] at h1; omega
  obtain ⟨hp1, hp8⟩ := hp
  go_enter Tryz.func69, Tryz.ntmps69
  go_wp2_with (go_at_call 55; refine (within_any _ _ _ _).mono ?_; rintro e w' ⟨rfl, rfl⟩)
  obtain ⟨W0, hW0⟩ : ∃ W0, W0 = W.alloc (.cells #[.int .i64 p, .slice a n cap] 26) := ⟨_, rfl⟩
  rw [← hW0]
  have hs0 : W0.heap.size = W.heap.size + 1 := by rw [hW0]; simp
  have g0 : W0.cell? ⟨W.heap.size, 0, none⟩ = some (.int .i64 p) := by rw [hW0]; simp [World.cell?_alloc_new]
  have g1 : W0.cell? ⟨W.heap.size, 1, none⟩ = some (.slice a n cap) := by rw [hW0]; simp [World.cell?_alloc_new]
  rw [← hW0] at HB0
  have HC := Lib.hid (HH.out.below HB0.out).2
  have HS0 := Lib.hid hs0
  have hs1 : W.heap.size < W0.heap.size := by omega
  clear hs0 hW0
  go_loopw [18] (fun i wr => ∃ k : Nat, k ≤ n ∧ i = .int .i64 k ∧ (List.range k).all (barAt p l) = true ∧ Below W0.heap.size W0 wr) (fun i _ => n - (intOf i).toNat)
  case atStart => exact ⟨0, Nat.zero_le _, rfl, by simp, Below.refl _ _⟩
  case round =>
    obtain ⟨k, hk, rfl, hall, hb⟩ := hrel
    have HA := Lib.hid hall
    clear hall
    have g0' := (hb.cell (p := ⟨W.heap.size, 0, none⟩) hs1).trans g0
    have g1' := (hb.cell (p := ⟨W.heap.size, 1, none⟩) hs1).trans g1
    have hbz := hb.size
    have hq1 : W.heap.size < wr.heap.size := by omega
    have hq2 : W.heap.size ≤ wr.heap.size := by omega
    have hq3 : W.heap.size < wr.heap.size + 1 := by omega
    have hkl : k < n → k < l.length := fun hh => by have := HL.out; omega
    by_cases hlt : k < n
    · obtain ⟨b, off, ⟨x1, x2⟩, rfl, hbl, hx, hc0, hc1⟩ := HC.out k hlt
      dsimp only at hc0 hc1
      have HX := Lib.hid hx
      have d0 := (hb.cell (p := ⟨b, off + k * 2, none⟩) hbl).trans hc0
      have d1 := (hb.cell (p := ⟨b, off + k * 2 + 1, none⟩) hbl).trans hc1
      have hr1 : b < wr.heap.size := by omega
      have hr2 : b ≤ wr.heap.size := by omega
      have hr3 : b < wr.heap.size + 1 := by omega
      clear hc0 hc1 hx g0 g1
      by_cases e1 : x1 < 0
      · have hd1 : decide (x1 < 0) = true := decide_eq_true e1
        have HF := Lib.hid (ret_bool (isGraph_not (p := p) (k := k) (hkl hlt) (by simp only [barAt, HX.out]; simp; omega)))
        go_wp2_with fail
        refine wp_region_wd (by kernel_rfl) (by kernel_rfl) ?_
        repeat (go_big_quiet_step ((first | (go_at_call 123; exact Calls.wd_of (compareBars_any _ _ _ _ _)))))
        refine wpQuiet_nil ?_
        intro n1
        have hbn : Below W0.heap.size W0 n1.w := (hb.alloc hb.size _).trans (n1.h.mono (by simp; omega))
        go_wp2_with fail
        go_ret
        exact ⟨HF.out.symm, HB0.out.trans (hbn.mono (by omega))⟩
      by_cases e2 : x2 ≤ x1
      · have hd1 : decide (x1 < 0) = false := decide_eq_false e1
        have HF := Lib.hid (ret_bool (isGraph_not (p := p) (k := k) (hkl hlt) (by simp only [barAt, HX.out]; simp; omega)))
        go_wp2_with fail
        refine wp_region_wd (by kernel_rfl) (by kernel_rfl) ?_
        repeat (go_big_quiet_step ((first | (go_at_call 123; exact Calls.wd_of (compareBars_any _ _ _ _ _)))))
        refine wpQuiet_nil ?_
        intro n1
        have hbn : Below W0.heap.size W0 n1.w := (hb.alloc hb.size _).trans (n1.h.mono (by simp; omega))
        go_wp2_with fail
        go_ret
        exact ⟨HF.out.symm, HB0.out.trans (hbn.mono (by omega))⟩
      by_cases e3 : p ≤ x2
      · have hd1 : decide (x1 < 0) = false := decide_eq_false e1
        have hd2 : decide (x2 ≤ x1) = false := decide_eq_false e2
        have HF := Lib.hid (ret_bool (isGraph_not (p := p) (k := k) (hkl hlt) (by simp only [barAt, HX.out]; simp; omega)))
        go_wp2_with fail
        refine wp_region_wd (by kernel_rfl) (by kernel_rfl) ?_
        repeat (go_big_quiet_step ((first | (go_at_call 123; exact Calls.wd_of (compareBars_any _ _ _ _ _)))))
        refine wpQuiet_nil ?_
        intro n1
        have hbn : Below W0.heap.size W0 n1.w := (hb.alloc hb.size _).trans (n1.h.mono (by simp; omega))
        go_wp2_with fail
        go_ret
        exact ⟨HF.out.symm, HB0.out.trans (hbn.mono (by omega))⟩
      have hd1 : decide (x1 < 0) = false := decide_eq_false e1
      have hd2 : decide (x2 ≤ x1) = false := decide_eq_false e2
      have hd3 : decide (p ≤ x2) = false := decide_eq_false e3
      by_cases hk0 : k = 0
      · subst hk0
        have hat : barAt p l 0 = true := by simp only [barAt, HX.out]; simp; omega
        have HAT := Lib.hid hat
        clear hat
        simp only [Nat.zero_mul, Nat.add_zero] at d0 d1
        go_wp2_with fail
        refine wp_region_wd (by kernel_rfl) (by kernel_rfl) ?_
        repeat (go_big_quiet_step ((first | (go_at_call 123; exact Calls.wd_of (compareBars_any _ _ _ _ _)))))
        refine wpQuiet_nil ?_
        intro n1
        have hbn : Below W0.heap.size W0 n1.w := (hb.alloc hb.size _).trans (n1.h.mono (by simp; omega))
        go_wp2_with fail
        go_roundw
        case rel => exact ⟨1, by omega, by go_num, by simp [List.range_succ, HAT.out], hbn⟩
        case measure => simp [intOf]; omega
      · obtain ⟨b2, off2, ⟨y1, y2⟩, hab, hbl2, hy, hy0, hy1⟩ := HC.out (k - 1) (by omega)
        simp only [Option.some.injEq, Addr.mk.injEq, and_true] at hab
        obtain ⟨rfl, rfl⟩ := hab
        dsimp only at hy0 hy1
        have HY := Lib.hid hy
        have t0 := (hb.cell (p := ⟨b, off + (k - 1) * 2, none⟩) hbl).trans hy0
        have t1 := (hb.cell (p := ⟨b, off + (k - 1) * 2 + 1, none⟩) hbl).trans hy1
        clear hy hy0 hy1
        have hk1 : (0 : Int) < (k : Int) := by omega
        have hdk : decide ((0 : Int) < (k : Int)) = true := decide_eq_true hk1
        have hdk2 : decide (0 < k) = true := decide_eq_true (by omega)
        have hkm1 : (0 : Int) ≤ (k : Int) - 1 := by omega
        have hkm2 : (k : Int) - 1 < (n : Int) := by omega
        cases e4 : barLe (y1, y2) (x1, x2)
        · have HF := Lib.hid (ret_bool (isGraph_not (p := p) (k := k) (hkl hlt) (by simp only [barAt, HX.out, HY.out, e4]; simp [hk0])))
          have hcmp : (0 : Int) < cmpB (y1, y2) (x1, x2) := (cmpB_le _ _).2 e4
          go_wp2_with fail
          refine wp_region_wd (by kernel_rfl) (by kernel_rfl) ?_
          repeat (go_big_quiet_step ((first | (go_at_call 123; exact Calls.wd_of (compareBars_any _ _ _ _ _)))))
          refine wpQuiet_nil ?_
          intro n1
          have hbn : Below W0.heap.size W0 n1.w := (hb.alloc hb.size _).trans (n1.h.mono (by simp; omega))
          go_wp2_with fail
          go_ret
          exact ⟨HF.out.symm, HB0.out.trans (hbn.mono (by omega))⟩
        · have hcmp : ¬ (0 : Int) < cmpB (y1, y2) (x1, x2) := fun hh => by have := (cmpB_le _ _).1 hh; rw [e4] at this; cases this
          have hcmpd : decide ((0 : Int) < cmpB (y1, y2) (x1, x2)) = false := decide_eq_false hcmp
          have hat : barAt p l k = true := by simp only [barAt, HX.out, HY.out, e4]; simp; omega
          have HAT := Lib.hid hat
          clear hat
          go_wp2_with fail
          refine wp_region_wd (by kernel_rfl) (by kernel_rfl) ?_
          repeat (go_big_quiet_step ((first | (go_at_call 123; exact Calls.wd_of (compareBars_any _ _ _ _ _)))))
          refine wpQuiet_nil ?_
          intro n1
          have hbn : Below W0.heap.size W0 n1.w := (hb.alloc hb.size _).trans (n1.h.mono (by simp; omega))
          go_wp2_with fail
          go_roundw
          case rel => exact ⟨k + 1, by omega, by go_num, range_all_succ HA.out HAT.out, hbn⟩
          case measure => simp [intOf]; omega
    · obtain rfl : k = n := by omega
      have HF := Lib.hid (ret_bool (show isGraphB (p, l) = true by
        have h2 := HA.out
        have h3 := HL.out
        simp only [isGraphB, barsOk, h3, h2, h1, Bool.true_and, Bool.and_true, decide_eq_true_eq]
        omega))
      go_wp2_with fail
      go_ret
      exact ⟨HF.out.symm, HB0.out.trans (hb.mono (by omega))⟩

theorem spec_IsGraph_is (W : World) (v : Value) (g : GraphT) (h : IsGraph W v g) (hn : szGraph g ≤ 1099511627776) : Calls Tryz.prog 59 #[v] W fun e w' => e = .returned (.bool (isGraphB g)) ∧ Below W.heap.size W w' := by
  obtain ⟨p, l⟩ := g
  obtain ⟨a, cap, rfl, hi⟩ := h
  exact specIsGraph_at _ _ _ _ _ hi hn
theorem impl_IsGraph_is (W : World) (v : Value) (g : GraphT) (h : IsGraph W v g) (hn : szGraph g ≤ 1099511627776) : Calls Tryz.prog 69 #[v] W fun e w' => e = .returned (.bool (isGraphB g)) ∧ Below W.heap.size W w' := by
  obtain ⟨p, l⟩ := g
  obtain ⟨a, cap, rfl, hi⟩ := h
  exact implIsGraph_at _ _ _ _ _ hi hn
end Go.Proofs.YtfdhbbhfilkafaaGreat
