/- IsFramework of the program and of the reference. -/
import Derived.Test.YtfbmpkdjhhcnpaaMoP08
import Derived.Test.YtfbmpkdjhhcnpaaMoP12
import Derived.Test.YtfbmpkdjhhcnpaaMoP11
import Derived.Test.YtfbmpkdjhhcnpaaMoP10
import Derived.Test.YtfbmpkdjhhcnpaaMoP09
import Derived.Deep.RegionHeld3
import Derived.OwnWalk
import Derived.BigRegion
import Derived.Test.YtfbmpkdjhhcnpaaMoP05
namespace Go.Proofs.Ytfbmpkdjhhcnpaa
open Go.RowKit
set_option maxRecDepth 100000
set_option linter.unusedVariables false
set_option linter.unusedSimpArgs false

def fwBarAt (l : List BarT) (q : List PlaceT) (i : Nat) : Bool := match l[i]? with
  | none => true
  | some x => !(decide (0 < i) && decide (l[i - 1]? = some x)) && !decide (q[x.1.toNat]? = q[x.2.toNat]?)
def isFwB (f : FwT) : Bool := isGraphB (f.1, f.2.1) && (decide (f.1 ≤ 6) && (decide ((f.2.2.length : Int) = f.1) && (decide (f.2.1.length ≤ 15) && (f.2.2.all (fun x => onB x.1 x.2) && (List.range f.2.1.length).all (fwBarAt f.2.1 f.2.2)))))
theorem isGraphB_bd {p : Int} {l : List BarT} (h : isGraphB (p, l) = true) : (1 ≤ p ∧ p ≤ 8) ∧ l.length ≤ 24 := by
  simp [isGraphB, inB] at h; omega
theorem isGraphB_bar {p : Int} {l : List BarT} (h : isGraphB (p, l) = true) {i : Nat} {x : BarT} (hx : l[i]? = some x) : 0 ≤ x.1 ∧ x.1 < x.2 ∧ x.2 < p := by
  simp only [isGraphB, barsOk, Bool.and_eq_true, List.all_eq_true] at h
  have h1 := h.2.2 i (List.mem_range.2 (lt_of_getElem? hx))
  simp only [barAt, hx, Bool.and_eq_true, decide_eq_true_eq] at h1
  exact ⟨h1.1, h1.2.1, h1.2.2.1⟩
theorem isFw_place {p : Int} {l : List BarT} {q : List PlaceT} {k : Nat} {x1 x2 : Int} (h : q[k]? = some (x1, x2)) (hx : onB x1 x2 = false) : isFwB (p, l, q) = false := by
  have : q.all (fun x => onB x.1 x.2) = false := List.all_eq_false.2 ⟨_, List.mem_of_getElem? h, by simp [hx]⟩
  simp only [isFwB, this, Bool.false_and, Bool.and_false]
theorem isFw_bar {p : Int} {l : List BarT} {q : List PlaceT} {j : Nat} (hj : j < l.length) (h : fwBarAt l q j = false) : isFwB (p, l, q) = false := by
  have : (List.range l.length).all (fwBarAt l q) = false := List.all_eq_false.2 ⟨j, List.mem_range.2 hj, by simp [h]⟩
  simp only [isFwB, this, Bool.false_and, Bool.and_false]

theorem specIsGraph_n (W : World) (p : Int) (a : Option Addr) (cap n : Nat) (l : List BarT) (h : BarsAt W a n l) (hn : n ≤ 1099511627776) :
    Calls Try.prog 36 #[.agg #[.int .i64 p, .slice a n cap]] W fun e w' => e = .returned (.bool (isGraphB (p, l))) ∧ Below W.heap.size W w' := by
  obtain rfl := h.1
  exact specIsGraph_at W p a cap l h hn

set_option maxHeartbeats 16000000 in
theorem specIsFw_at (W : World) (p : Int) (a : Option Addr) (cap : Nat) (l : List BarT) (c : Option Addr) (capc : Nat) (q : List PlaceT) (h : BarsAt W a l.length l) (hq : PlacesAt W c q.length q) (hn : l.length ≤ 1099511627776) (hnq : q.length ≤ 1099511627776) :
    Calls Try.prog 13 #[.agg #[.int .i64 p, .slice a l.length cap, .slice c q.length capc]] W fun e w' => e = .returned (.bool (isFwB (p, l, q))) ∧ Below W.heap.size W w' := by
  have hwd := @Wd.cells
  have hgB := guardBar
  have hgP := guardPlace
  have HI := Lib.hid h
  have HJ := Lib.hid hq
  clear h hq
  generalize hL : l.length = n at *
  generalize hT : q.length = t at *
  have HL := Lib.hid hL
  have HT := Lib.hid hT
  have HB0 : Hid (Below W.heap.size W (W.alloc (.cells #[.int .i64 p, .slice a n cap, .slice c t capc] 29))) := (Below.refl _ W).alloc (Nat.le_refl _) _
  cases hg : isGraphB (p, l)
  · have HF := Lib.hid (ret_bool (show isFwB (p, l, q) = false by simp only [isFwB, hg, Bool.false_and]))
    go_enter Try.func13, Try.ntmps13
    go_wp2_with fail
    refine (specIsGraph_n _ _ _ _ _ _ (HI.out.below HB0.out) (by omega)).mono ?_
    rintro e W0 ⟨rfl, b1⟩
    rw [hg]
    have HB1 : Hid (Below W.heap.size W W0) := HB0.out.trans (b1.mono (by simp <;> omega))
    clear b1
    go_wp2_with fail
    go_ret
    exact ⟨HF.out.symm, HB1.out⟩
  have hgb := isGraphB_bd hg
  obtain ⟨hgb1, hgb2⟩ := hgb
  rw [hL] at hgb2
  clear hL hT
  by_cases h6 : 6 < p
  · have hd6 : decide (6 < p) = true := decide_eq_true h6
    have HF := Lib.hid (ret_bool (show isFwB (p, l, q) = false by have h6b : decide (p ≤ 6) = false := decide_eq_false (by omega); simp only [isFwB, h6b, Bool.false_and, Bool.and_false]))
    go_enter Try.func13, Try.ntmps13
    go_wp2_with fail
    refine (specIsGraph_n _ _ _ _ _ _ (HI.out.below HB0.out) (by omega)).mono ?_
    rintro e W0 ⟨rfl, b1⟩
    rw [hg]
    have hz : W.heap.size + 1 ≤ W0.heap.size := by have := b1.size; simp at this; omega
    have g0 : W0.cell? ⟨W.heap.size, 0, none⟩ = some (.int .i64 p) := by rw [(bcell b1).1 _ _ (by simp <;> omega)]; simp [World.cell?_alloc_new]
    have g1 : W0.cell? ⟨W.heap.size, 1, none⟩ = some (.slice a n cap) := by rw [(bcell b1).1 _ _ (by simp <;> omega)]; simp [World.cell?_alloc_new]
    have g2 : W0.cell? ⟨W.heap.size, 2, none⟩ = some (.slice c t capc) := by rw [(bcell b1).1 _ _ (by simp <;> omega)]; simp [World.cell?_alloc_new]
    have HB1 : Hid (Below W.heap.size W W0) := HB0.out.trans (b1.mono (by simp <;> omega))
    clear b1
    have hs1 : W.heap.size < W0.heap.size := by omega
    have hs2 : W.heap.size ≤ W0.heap.size := by omega
    go_wp2_with fail
    go_ret
    exact ⟨HF.out.symm, HB1.out⟩
  have hd6 : decide (6 < p) = false := decide_eq_false h6
  by_cases hpt : (t : Int) = p
  rotate_left
  · have hq1 : ((t : Int) != p) = true := by simpa using hpt
    have HF := Lib.hid (ret_bool (show isFwB (p, l, q) = false by have h16 : decide ((q.length : Int) = p) = false := decide_eq_false (by have := HT.out; omega); simp only [isFwB, h16, Bool.false_and, Bool.and_false]))
    go_enter Try.func13, Try.ntmps13
    go_wp2_with fail
    refine (specIsGraph_n _ _ _ _ _ _ (HI.out.below HB0.out) (by omega)).mono ?_
    rintro e W0 ⟨rfl, b1⟩
    rw [hg]
    have hz : W.heap.size + 1 ≤ W0.heap.size := by have := b1.size; simp at this; omega
    have g0 : W0.cell? ⟨W.heap.size, 0, none⟩ = some (.int .i64 p) := by rw [(bcell b1).1 _ _ (by simp <;> omega)]; simp [World.cell?_alloc_new]
    have g1 : W0.cell? ⟨W.heap.size, 1, none⟩ = some (.slice a n cap) := by rw [(bcell b1).1 _ _ (by simp <;> omega)]; simp [World.cell?_alloc_new]
    have g2 : W0.cell? ⟨W.heap.size, 2, none⟩ = some (.slice c t capc) := by rw [(bcell b1).1 _ _ (by simp <;> omega)]; simp [World.cell?_alloc_new]
    have HB1 : Hid (Below W.heap.size W W0) := HB0.out.trans (b1.mono (by simp <;> omega))
    clear b1
    have hs1 : W.heap.size < W0.heap.size := by omega
    have hs2 : W.heap.size ≤ W0.heap.size := by omega
    go_wp2_with fail
    go_ret
    exact ⟨HF.out.symm, HB1.out⟩
  have hq1 : ((t : Int) != p) = false := by simpa using hpt
  have HPT := Lib.hid hpt
  have hpt1 : (t : Int) ≤ p := by omega
  have hpt2 : p ≤ (t : Int) := by omega
  clear hpt
  by_cases h15 : 15 < n
  · have hd15 : decide (15 < n) = true := decide_eq_true h15
    have HF := Lib.hid (ret_bool (show isFwB (p, l, q) = false by have h15b : decide (l.length ≤ 15) = false := decide_eq_false (by have := HL.out; omega); simp only [isFwB, h15b, Bool.false_and, Bool.and_false]))
    go_enter Try.func13, Try.ntmps13
    go_wp2_with fail
    refine (specIsGraph_n _ _ _ _ _ _ (HI.out.below HB0.out) (by omega)).mono ?_
    rintro e W0 ⟨rfl, b1⟩
    rw [hg]
    have hz : W.heap.size + 1 ≤ W0.heap.size := by have := b1.size; simp at this; omega
    have g0 : W0.cell? ⟨W.heap.size, 0, none⟩ = some (.int .i64 p) := by rw [(bcell b1).1 _ _ (by simp <;> omega)]; simp [World.cell?_alloc_new]
    have g1 : W0.cell? ⟨W.heap.size, 1, none⟩ = some (.slice a n cap) := by rw [(bcell b1).1 _ _ (by simp <;> omega)]; simp [World.cell?_alloc_new]
    have g2 : W0.cell? ⟨W.heap.size, 2, none⟩ = some (.slice c t capc) := by rw [(bcell b1).1 _ _ (by simp <;> omega)]; simp [World.cell?_alloc_new]
    have HB1 : Hid (Below W.heap.size W W0) := HB0.out.trans (b1.mono (by simp <;> omega))
    clear b1
    have hs1 : W.heap.size < W0.heap.size := by omega
    have hs2 : W.heap.size ≤ W0.heap.size := by omega
    go_wp2_with fail
    go_ret
    exact ⟨HF.out.symm, HB1.out⟩
  have hd15 : decide (15 < n) = false := decide_eq_false h15
  go_enter Try.func13, Try.ntmps13
  go_wp2_with fail
  refine (specIsGraph_n _ _ _ _ _ _ (HI.out.below HB0.out) (by omega)).mono ?_
  rintro e W0 ⟨rfl, b1⟩
  rw [hg]
  have hz : W.heap.size + 1 ≤ W0.heap.size := by have := b1.size; simp at this; omega
  have g0 : W0.cell? ⟨W.heap.size, 0, none⟩ = some (.int .i64 p) := by rw [(bcell b1).1 _ _ (by simp <;> omega)]; simp [World.cell?_alloc_new]
  have g1 : W0.cell? ⟨W.heap.size, 1, none⟩ = some (.slice a n cap) := by rw [(bcell b1).1 _ _ (by simp <;> omega)]; simp [World.cell?_alloc_new]
  have g2 : W0.cell? ⟨W.heap.size, 2, none⟩ = some (.slice c t capc) := by rw [(bcell b1).1 _ _ (by simp <;> omega)]; simp [World.cell?_alloc_new]
  have HB1 : Hid (Below W.heap.size W W0) := HB0.out.trans (b1.mono (by simp <;> omega))
  clear b1
  have hs1 : W.heap.size < W0.heap.size := by omega
  have hs2 : W.heap.size ≤ W0.heap.size := by omega
  have HC := Lib.hid (HI.out.below HB1.out).2
  have HCQ := Lib.hid (HJ.out.below HB1.out).2
  go_wp2_with fail
  go_loop [3] (fun i => ∃ k : Nat, k ≤ t ∧ i = .int .i64 k ∧ (q.take k).all (fun x => onB x.1 x.2) = true) (fun i => t - (intOf i).toNat)
  case atStart => exact ⟨0, Nat.zero_le _, rfl, by simp⟩
  case round =>
    obtain ⟨k, hk, rfl, hall⟩ := hrel
    have HA := Lib.hid hall
    clear hall
    by_cases hlt : k < t
    · skip
      obtain ⟨b, off, ⟨x1, x2⟩, rfl, hbl, hx, hc0, hc1⟩ := HCQ.out k hlt
      dsimp only at hc0 hc1
      have HX := Lib.hid hx
      clear hx
      cases e1 : inB x1 0 4
      · have HF := Lib.hid (ret_bool (isFw_place (p := p) (l := l) HX.out (by simp [onB, e1])))
        go_wp2_with (go_at_call 37; refine (l1In_any _ _ _ _).mono ?_; rintro e w' ⟨rfl, rfl⟩)
        go_ret
        exact ⟨HF.out.symm, HB1.out⟩
      · cases e2 : inB x2 0 4
        · have HF := Lib.hid (ret_bool (isFw_place (p := p) (l := l) HX.out (by simp [onB, e1, e2])))
          go_wp2_with (go_at_call 37; refine (l1In_any _ _ _ _).mono ?_; rintro e w' ⟨rfl, rfl⟩)
          go_ret
          exact ⟨HF.out.symm, HB1.out⟩
        · go_wp2_with (go_at_call 37; refine (l1In_any _ _ _ _).mono ?_; rintro e w' ⟨rfl, rfl⟩)
          go_round
          case rel => exact ⟨k + 1, by omega, by go_num, all_take_succ HX.out HA.out (by simp [onB, e1, e2])⟩
          case measure => simp [intOf]; omega
    · obtain rfl : k = t := by omega
      have hall2 : q.all (fun x => onB x.1 x.2) = true := by have h1 := HA.out; rwa [List.take_of_length_le (by have := HT.out; omega)] at h1
      have HA2 := Lib.hid hall2
      clear hall2

      go_wp2_with fail
      go_loopw [4] (fun i w9 => ∃ j : Nat, j ≤ n ∧ i = .int .i64 j ∧ (List.range j).all (fwBarAt l q) = true ∧ Below W0.heap.size W0 w9) (fun i _ => n - (intOf i).toNat)
      case atStart => exact ⟨0, Nat.zero_le _, rfl, by simp, Below.refl _ _⟩
      case round =>
        
        obtain ⟨j, hj, rfl, hall, hb⟩ := hrel
        have HB := Lib.hid hall
        clear hall
        obtain ⟨wz, hwz⟩ : ∃ wz, wz = wr := ⟨_, rfl⟩
        have hbz := hb.size
        have q0 := (hb.cell (p := ⟨W.heap.size, 0, none⟩) hs1).trans g0
        have q1 := (hb.cell (p := ⟨W.heap.size, 1, none⟩) hs1).trans g1
        have q2 := (hb.cell (p := ⟨W.heap.size, 2, none⟩) hs1).trans g2
        clear hwz
        have hu1 : W.heap.size < wr.heap.size := by omega
        have hu2 : W.heap.size ≤ wr.heap.size := by omega
        have hu3 : W.heap.size < wr.heap.size + 1 := by omega
        by_cases hjl : j < n
        · obtain ⟨b, off, ⟨x1, x2⟩, rfl, hbl, hx, hc0, hc1⟩ := HC.out j hjl
          dsimp only at hc0 hc1
          obtain ⟨hx1, hx2, hx3⟩ := isGraphB_bar hg hx
          dsimp only at hx1 hx2 hx3
          obtain ⟨i1, rfl⟩ := Int.eq_ofNat_of_zero_le hx1
          obtain ⟨i2, rfl⟩ := Int.eq_ofNat_of_zero_le (show 0 ≤ x2 by omega)
          have HX := Lib.hid hx
          have d0 := (hb.cell (p := ⟨b, off + j * 2, none⟩) hbl).trans hc0
          have d1 := (hb.cell (p := ⟨b, off + j * 2 + 1, none⟩) hbl).trans hc1
          have hr1 : b < wr.heap.size := by omega
          have hr2 : b ≤ wr.heap.size := by omega
          have hr3 : b < wr.heap.size + 1 := by omega
          clear hc0 hc1 hx
          have hi1 : i1 < k := by omega
          have hi2 : i2 < k := by omega
          obtain ⟨bq, offq, ⟨y1, y2⟩, rfl, hbq, hy, hy0, hy1⟩ := HCQ.out i1 hi1
          obtain ⟨bq', offq', ⟨z1, z2⟩, hab, hbq', hzz, hz0, hz1⟩ := HCQ.out i2 hi2
          simp only [Option.some.injEq, Addr.mk.injEq, and_true] at hab
          obtain ⟨rfl, rfl⟩ := hab
          dsimp only at hy0 hy1 hz0 hz1
          have HY := Lib.hid hy
          have HZ := Lib.hid hzz
          have p0 := (hb.cell (p := ⟨bq, offq + i1 * 2, none⟩) hbq).trans hy0
          have p1 := (hb.cell (p := ⟨bq, offq + i1 * 2 + 1, none⟩) hbq).trans hy1
          have r0 := (hb.cell (p := ⟨bq, offq + i2 * 2, none⟩) hbq).trans hz0
          have r1 := (hb.cell (p := ⟨bq, offq + i2 * 2 + 1, none⟩) hbq).trans hz1
          have hm1 : bq < wr.heap.size := by omega
          have hm2 : bq ≤ wr.heap.size := by omega
          have hm3 : bq < wr.heap.size + 1 := by omega
          clear hy hzz hy0 hy1 hz0 hz1 g0 g1 g2
          by_cases hpq : (((y1, y2) : PlaceT) = (z1, z2))
          · have HPQ := Lib.hid hpq
            have hcp := fun w => eqlPlace_t hpq w
            clear hpq
            have HF := Lib.hid (ret_bool (isFw_bar (p := p) (l := l) (q := q) (j := j) (by have := HL.out; omega) (by simp only [fwBarAt, HX.out, Int.toNat_natCast, HY.out, HZ.out, HPQ.out]; simp)))
            go_wp2_with fail
            refine wp_region_wd (by kernel_rfl) (by kernel_rfl) ?_
            repeat (go_big_quiet_step (fail))
            refine wpQuiet_nil ?_
            intro n1
            have hbn : Below W0.heap.size W0 n1.w := (hb.alloc hb.size _).trans (n1.h.mono (by simp; omega))
            go_wp2_with fail
            go_ret
            exact ⟨HF.out.symm, HB1.out.trans (hbn.mono (by omega))⟩
          · have HPQ := Lib.hid hpq
            have hcp := fun w => eqlPlace_f hpq w
            clear hpq
            by_cases hj0 : j = 0
            · subst hj0
              simp only [Nat.zero_mul, Nat.add_zero] at d0 d1
              have HAT := Lib.hid (show fwBarAt l q 0 = true by have h9 : decide ((some (y1, y2) : Option PlaceT) = some (z1, z2)) = false := decide_eq_false (fun hh => HPQ.out (Option.some.inj hh)); simp only [fwBarAt, HX.out, Int.toNat_natCast, HY.out, HZ.out, h9]; simp)
              go_wp2_with fail
              refine wp_region_wd (by kernel_rfl) (by kernel_rfl) ?_
              repeat (go_big_quiet_step (fail))
              refine wpQuiet_nil ?_
              intro n1
              have hbn : Below W0.heap.size W0 n1.w := (hb.alloc hb.size _).trans (n1.h.mono (by simp; omega))
              go_wp2_with fail
              go_roundw
              case rel => exact ⟨1, by omega, by go_num, by simp [List.range_succ, HAT.out], hbn⟩
              case measure => simp [intOf]; omega
            · obtain ⟨b2, off2, ⟨v1, v2⟩, hab, hbl2, hv, hva, hvb⟩ := HC.out (j - 1) (by omega)
              simp only [Option.some.injEq, Addr.mk.injEq, and_true] at hab
              obtain ⟨rfl, rfl⟩ := hab
              dsimp only at hva hvb
              have HV := Lib.hid hv
              have t0 := (hb.cell (p := ⟨b, off + (j - 1) * 2, none⟩) hbl).trans hva
              have t1 := (hb.cell (p := ⟨b, off + (j - 1) * 2 + 1, none⟩) hbl).trans hvb
              clear hv hva hvb
              have hj1 : (0 : Int) < (j : Int) := by omega
              have hdj : decide ((0 : Int) < (j : Int)) = true := decide_eq_true hj1
              have hdj2 : decide (0 < j) = true := decide_eq_true (by omega)
              have hjm1 : (0 : Int) ≤ (j : Int) - 1 := by omega
              have hjm2 : (j : Int) - 1 < (n : Int) := by omega
              by_cases hbb : (((v1, v2) : BarT) = ((i1 : Int), (i2 : Int)))
              · have hcb := fun w => eqlBar_t hbb w
                have HF := Lib.hid (ret_bool (isFw_bar (p := p) (l := l) (q := q) (j := j) (by have := HL.out; omega) (by simp only [fwBarAt, HX.out, HV.out, hbb]; simp [hj0])))
                clear hbb
                go_wp2_with fail
                refine wp_region_wd (by kernel_rfl) (by kernel_rfl) ?_
                repeat (go_big_quiet_step (fail))
                refine wpQuiet_nil ?_
                intro n1
                have hbn : Below W0.heap.size W0 n1.w := (hb.alloc hb.size _).trans (n1.h.mono (by simp; omega))
                go_wp2_with fail
                go_ret
                exact ⟨HF.out.symm, HB1.out.trans (hbn.mono (by omega))⟩
              · have hcb := fun w => eqlBar_f hbb w
                have HAT := Lib.hid (show fwBarAt l q j = true by simp only [fwBarAt, HX.out, HV.out, Int.toNat_natCast, HY.out, HZ.out, Option.some.injEq, hbb, HPQ.out]; simp)
                clear hbb
                go_wp2_with fail
                refine wp_region_wd (by kernel_rfl) (by kernel_rfl) ?_
                repeat (go_big_quiet_step (fail))
                refine wpQuiet_nil ?_
                intro n1
                have hbn : Below W0.heap.size W0 n1.w := (hb.alloc hb.size _).trans (n1.h.mono (by simp; omega))
                go_wp2_with fail
                go_roundw
                case rel => exact ⟨j + 1, by omega, by go_num, range_all_succ HB.out HAT.out, hbn⟩
                case measure => simp [intOf]; omega
        · obtain rfl : j = n := by omega
          have HF := Lib.hid (ret_bool (show isFwB (p, l, q) = true by
            have h1 := HB.out
            have h2 := HA2.out
            have h3 := HL.out
            have h4 := HT.out
            have h5 := HPT.out
            rw [← h3] at h1
            have hA : decide (p ≤ 6) = true := decide_eq_true (by omega)
            have hB : decide ((q.length : Int) = p) = true := decide_eq_true (by omega)
            have hC : decide (l.length ≤ 15) = true := decide_eq_true (by omega)
            simp only [isFwB, hg, hA, hB, hC, h1, h2, Bool.and_self]))
          go_wp2_with fail
          go_ret
          exact ⟨HF.out.symm, HB1.out.trans (hb.mono (by omega))⟩


end Go.Proofs.Ytfbmpkdjhhcnpaa

namespace Go.Proofs.Ytfbmpkdjhhcnpaa
open Go.RowKit
set_option maxRecDepth 100000
set_option linter.unusedVariables false
set_option linter.unusedSimpArgs false

/-- a reslice of bars from a place on -/
theorem appBarsAt {w : World} {ops : Array Oper} {rest : List Oper} {o : Oper} {a : Act} {Q : Exit → Act → World → Prop} (hg : o.guard = none) (s x : Operand)
    (ho : o.op = .call { callee := .builtin .append, args := #[s, x], argTypes := #[24, 24] }) {base : Nat} {v : Value} {l0 : List BarT} (hs : a.eval s = v) (hown : OwnBars w base v l0)
    {ao : Option Addr} {n c : Nat} {l : List BarT} (hx : a.eval x = .slice ao n c) (hat : BarsAt w ao n l) (hl : l0.length + n < 1099511627776) (hbase : base ≤ w.heap.size)
    (hK : ∀ v' w', OwnBars w' base v' (l0 ++ l) → Kept (fun k => some k = v.ownBlock) w w' → (v'.ownBlock = v.ownBlock ∨ ∀ b, v'.ownBlock = some b → w.heap.size ≤ b) → wpList Try.prog ops Q rest (a.put o.dst v') w') :
    wpList Try.prog ops Q (o :: rest) a w := by
  obtain ⟨i0, hi, hz0, hz1, hz2⟩ := info_parts infoBar
  refine wpList_append_whole _ hg s x 24 ho base 56 i0 _ 2 16 Try.underlying24 hi hz0 hz1 hz2 rfl (by decide) v l0.length (l0.flatMap cellsBar) hs hown ao n c (l.flatMap cellsBar) hx (by rw [flat2 cellsBar (fun _ => rfl), hat.1]) (bars_src hat) (bars_oneCell _) (by unfold maxLen; omega) (by omega) hbase ?_
  intro v' w' h1 h2 h3
  refine hK v' w' ?_ (Kept.of_grown h2) ?_
  · unfold OwnBars
    rw [List.length_append, List.flatMap_append, hat.1]
    exact h1
  · rcases h3 with h3 | h3
    · exact .inl h3
    · right
      intro b hb
      rw [h3] at hb
      simp at hb
      omega
theorem cutBfrom {b off n m j c : Nat} (hn : n = m + j) (hc : n ≤ c) (hm : c ≤ 9223372036854775807) : ∃ o' c', (∀ w, (Instr.slice 24 (.slice (some ⟨b, off, none⟩) n c) (some (.int .i64 (j : Int))) none none).run Try.prog w = .ok (.slice (some ⟨b, o', none⟩) m c') w) ∧ (0 < m → o' = off + j * 2) := by
  subst hn
  by_cases h : c = j
  · have hm0 : m = 0 := by omega
    subst hm0
    subst h
    refine ⟨off, 0, fun w => ?_, fun h => absurd h (by omega)⟩
    go_simp
  · refine ⟨off + j * 2, c - j, fun w => ?_, fun _ => rfl⟩
    go_simp
    omega
theorem cutBto {b off n j c : Nat} (hn : j ≤ n) (hc : n ≤ c) (hm : c ≤ 9223372036854775807) (w : World) : (Instr.slice 24 (.slice (some ⟨b, off, none⟩) n c) none (some (.int .i64 (j : Int))) none).run Try.prog w = .ok (.slice (some ⟨b, off, none⟩) j c) w := by
  go_simp
  intro h
  omega
theorem BarsAt.takeB {W : World} {a : Option Addr} {n m : Nat} {r : List BarT} (h : BarsAt W a n r) (hm : m ≤ n) : BarsAt W a m (r.take m) :=
  ⟨by rw [List.length_take, h.1]; omega, fun k hk => by
    obtain ⟨b, off, x, h1, h2, h3, h4⟩ := h.2 k (by omega)
    exact ⟨b, off, x, h1, h2, by rw [List.getElem?_take_of_lt hk]; exact h3, h4⟩⟩
theorem BarsAt.dropB {W : World} {b off o' : Nat} {n m j : Nat} {r : List BarT} (h : BarsAt W (some ⟨b, off, none⟩) n r) (hn : n = m + j) (ho : 0 < m → o' = off + j * 2) : BarsAt W (some ⟨b, o', none⟩) m (r.drop j) :=
  ⟨by rw [List.length_drop, h.1]; omega, fun k hk => by
    obtain ⟨b1, off1, x, h1, h2, h3, h4, h5⟩ := h.2 (k + j) (by omega)
    obtain ⟨rfl, rfl⟩ : b = b1 ∧ off = off1 := by simp at h1; exact h1
    rw [ho (by omega)]
    refine ⟨b, off + j * 2, x, rfl, h2, by rw [List.getElem?_drop, Nat.add_comm]; exact h3, ?_, ?_⟩
    · rw [show off + j * 2 + k * 2 = off + (k + j) * 2 by omega]; exact h4
    · rw [show off + j * 2 + k * 2 + 1 = off + (k + j) * 2 + 1 by omega]; exact h5⟩
theorem BarsAt.keptB {S : Nat → Prop} {W W' : World} {b off n : Nat} {r : List BarT} (h : BarsAt W (some ⟨b, off, none⟩) n r) (hk : Kept S W W') (hs : ¬ S b) : BarsAt W' (some ⟨b, off, none⟩) n r :=
  ⟨h.1, fun k hkn => by
    obtain ⟨b1, off1, x, h1, h2, h3, h4, h5⟩ := h.2 k hkn
    obtain ⟨rfl, rfl⟩ : b = b1 ∧ off = off1 := by simp at h1; exact h1
    exact ⟨b, off, x, rfl, Nat.lt_of_lt_of_le h2 hk.size, h3, (hk.cell h2 hs).trans h4, (hk.cell h2 hs).trans h5⟩⟩
theorem OwnBars.cap {W : World} {base : Nat} {a : Option Addr} {n c : Nat} {l : List BarT} (h : OwnBars W base (.slice a n c) l) : n ≤ c ∧ c ≤ 9223372036854775807 := by
  rcases h.2 with ⟨h1, h0⟩ | ⟨g', cap, cur, h1, hb, hg, h2⟩
  · simp at h1
    omega
  · simp at h1
    have : maxLen = 9223372036854775807 := rfl
    omega
/-- the first bars of a row of the call's own are the call's own -/
theorem OwnBars.takeB {W : World} {base : Nat} {g n c j : Nat} {l : List BarT} (h : OwnBars W base (.slice (some ⟨g, 0, none⟩) n c) l) (hj : j ≤ l.length) : OwnBars W base (.slice (some ⟨g, 0, none⟩) j c) (l.take j) := by
  rcases h.2 with ⟨h1, h0⟩ | ⟨g', cap, cur, h1, hb, hg, h2, h3, h4, h5⟩
  · simp at h1
  · simp at h1
    obtain ⟨rfl, rfl, rfl⟩ := h1
    have hl : (l.take j).length = j := by rw [List.length_take]; omega
    have e1 : (l.take j).flatMap cellsBar = (l.flatMap cellsBar).take (j * 2) := by
      have e2 : l.flatMap cellsBar = (l.take j).flatMap cellsBar ++ (l.drop j).flatMap cellsBar := by rw [← List.flatMap_append, List.take_append_drop]
      have e3 : ((l.take j).flatMap cellsBar).length = j * 2 := by rw [flat2 cellsBar (fun _ => rfl), hl]
      conv => rhs; rw [e2]
      rw [List.take_append_of_le_length (Nat.le_of_eq e3.symm), List.take_of_length_le (Nat.le_of_eq e3)]
    unfold OwnBars
    rw [hl]
    refine ⟨by rw [flat2 cellsBar (fun _ => rfl), hl], .inr ⟨g, c, cur, rfl, hb, hg, by omega, h3, h4, ?_⟩⟩
    rw [e1, ← h5, List.take_take, Nat.min_eq_left (by omega)]
def cutG (l : List BarT) (k : Nat) : List BarT := l.take k ++ l.drop (k + 1)
theorem cutG_length {l : List BarT} {k : Nat} (h : k < l.length) : (cutG l k).length = l.length - 1 := by
  unfold cutG; rw [List.length_append, List.length_take, List.length_drop]; omega
def RetGB (W : World) (g : GraphT) (b : Bool) (e : Ending) (w' : World) : Prop := ∃ v, e = .returned (.tuple #[v, .bool b]) ∧ OwnGraph w' W.heap.size v g ∧ Below W.heap.size W w'

set_option maxHeartbeats 8000000 in
theorem specRem_at (W : World) (p : Int) (a : Option Addr) (cap : Nat) (l : List BarT) (h : BarsAt W a l.length l) (hs : l.length ≤ 1048576) (hg : isGraphB (p, l) = true) (k : Nat) (hk : k < l.length) (hcap : l.length ≤ cap) (hcm : cap ≤ 9223372036854775807) :
    Calls Try.prog 72 #[.agg #[.int .i64 p, .slice a l.length cap], .int .i64 (k : Int)] W (RetGB W (p, cutG l k) true) := by
  have hwd := @Wd.cells
  have HGr : Hid (IsGraph W (.agg #[.int .i64 p, .slice a l.length cap]) (p, l)) := Lib.hid ⟨a, cap, rfl, h⟩
  have H1 := Lib.hid h
  clear h
  have hsz : szGraph (p, l) ≤ 1048576 := hs
  have hsz2 : szGraph (p, l) ≤ 1099511627776 := Nat.le_trans hsz (by decide)
  have B : Below W.heap.size W (W.alloc (.cells #[.int .i64 p, .slice a l.length cap] 26)) := (Below.refl _ _).alloc (Nat.le_refl _) _
  have BG : Hid (BoxGr (W.alloc (.cells #[.int .i64 p, .slice a l.length cap] 26)) W.heap.size p a l.length cap) := Lib.hid (BoxGr.at rfl)
  have HG := Lib.hid hg
  clear hg
  have HZ : Hid (Zer2 ((W.alloc (.cells #[.int .i64 p, .slice a l.length cap] 26)).alloc (.cells #[.int .i64 0, .slice none 0 0] 26)) (W.heap.size + 1)) := Lib.hid (by have := Zer2.at (W.alloc (.cells #[.int .i64 p, .slice a l.length cap] 26)) 26; rwa [World.size_alloc] at this)
  have ba := belAl (W.alloc (.cells #[.int .i64 p, .slice a l.length cap] 26)) (.cells #[.int .i64 0, .slice none 0 0] 26)
  have hz : W.heap.size + 2 ≤ ((W.alloc (.cells #[.int .i64 p, .slice a l.length cap] 26)).alloc (.cells #[.int .i64 0, .slice none 0 0] 26)).heap.size := by simp
  replace B := B.step ba
  replace BG := Lib.hid (BG.out.below ba)
  clear ba
  have hki : ¬ ((k : Int) ≥ (l.length : Int)) := by omega
  have hki2 : ¬ ((l.length : Int) ≤ (k : Int)) := by omega
  have hk0 : ¬ ((k : Int) < 0) := by omega
  go_enter Try.func72, Try.ntmps72
  go_upto_region 1 with (fail)
  generalize ((W.alloc (.cells #[.int .i64 p, .slice a l.length cap] 26)).alloc (.cells #[.int .i64 0, .slice none 0 0] 26)) = u at *
  obtain ⟨zBG, fBG0, fBG1⟩ := BG.out
  go_wp2_with fail
  clear zBG fBG0 fBG1
  refine (specIsGraph_at u p a cap l (H1.out.below B) (by omega)).mono ?_
  rintro e w1 ⟨rfl, b1⟩
  rw [HG.out]
  have hz1 := b1.size
  have B1 := B.step b1
  have BG1 := Lib.hid (BG.out.below b1)
  have Z1 := Lib.hid (HZ.out.below b1)
  obtain ⟨bb, off, x, rfl, hbl, -, -, -⟩ := H1.out.2 k hk
  have HI1 := Lib.hid (H1.out.below B1)
  clear b1 B BG HZ
  obtain ⟨o2, c2, hS2, ho2⟩ := cutBfrom (b := bb) (off := off) (n := l.length) (m := l.length - (k + 1)) (j := k + 1) (c := cap) (by omega) hcap hcm
  have hS1 := fun w => cutBto (b := bb) (off := off) (n := l.length) (j := k) (c := cap) (by omega) hcap hcm w
  have hadd := IntWalk.i64_in ((k : Int) + 1) (by omega)
  have hcast : ((k : Int) + 1) = ((k + 1 : Nat) : Int) := by omega
  rw [← hcast] at hS2
  have HO2 := Lib.hid ho2
  clear ho2 hcast
  have d0 : w1.drew.cell? ⟨W.heap.size, 0, none⟩ = _ := BG1.out.c0
  have d1 : w1.drew.cell? ⟨W.heap.size, 1, none⟩ = _ := BG1.out.c1
  have bu : Below w1.heap.size w1 (w1.alloc (.cells #[] 56)).drew := ((Below.refl _ w1).alloc (Nat.le_refl _) _).drew
  have k0 : (w1.alloc (.cells #[] 56)).drew.cell? ⟨W.heap.size, 0, none⟩ = some (.int .i64 p) := ((bcell bu).1 _ _ (by omega)).trans BG1.out.c0
  have k1 : (w1.alloc (.cells #[] 56)).drew.cell? ⟨W.heap.size, 1, none⟩ = some (.slice (some ⟨bb, off, none⟩) l.length cap) := ((bcell bu).1 _ _ (by omega)).trans BG1.out.c1
  have hz2 : w1.heap.size + 1 ≤ (w1.alloc (.cells #[] 56)).drew.heap.size := by show _ ≤ (w1.alloc (.cells #[] 56)).heap.size; simp
  have HHO : Hid (OwnBars (w1.alloc (.cells #[] 56)).drew w1.heap.size (.slice (some ⟨w1.heap.size, 0, none⟩) 0 0) []) := Lib.hid (OwnBars.made w1 _ (Nat.le_refl _))
  have HHS : Hid (BarsAt (w1.alloc (.cells #[] 56)).drew (some ⟨bb, off, none⟩) l.length l) := Lib.hid (HI1.out.below bu)
  have e0 : W.heap.size < w1.drew.heap.size := by show _ < w1.heap.size; omega
  have e1 : W.heap.size + 1 < w1.drew.heap.size := by show _ < w1.heap.size; omega
  have hbb : bb < w1.heap.size := by omega
  have ZA := Lib.hid (Z1.out.below bu)
  have BA := Lib.hid (B1.step bu)
  have tk1 := True.intro
  have tk2 := True.intro
  obtain ⟨zBG, fBG0, fBG1⟩ := BG1.out
  go_wp2_with fail
  clear zBG fBG0 fBG1
  go_region_held3 (fun w' => w'.cell? ⟨W.heap.size, 0, none⟩ = some (.int .i64 p) ∧ w'.cell? ⟨W.heap.size, 1, none⟩ = some (.slice (some ⟨bb, off, none⟩) l.length cap))
    (first | (with_reducible exact ⟨d0, d1⟩) | (with_reducible exact ⟨k0, k1⟩) | (with_reducible exact ⟨c0, c1⟩) | (with_reducible exact ⟨cc0, cc1⟩) | (go_keep))
    (first
      | (clear tk1
         refine stepAppBars (by rfl) _ _ (by rfl) (by rfl) HHO.out (by rfl) (HHS.out.takeB (m := k) (by omega)) (by simp; omega) (by simp [World.drew]) ?_
         intro v' w2 ho hk2 ha
         rw [List.nil_append] at ho
         have HB := Lib.hid ho
         obtain ⟨a', c', rfl, hi'⟩ := ho.form
         clear ho
         have hnb : ∀ b, b < w1.heap.size → ¬ (some b = Value.ownBlock (.slice (some ⟨w1.heap.size, 0, none⟩) 0 0)) := fun b hb hh => by simp [Value.ownBlock] at hh; omega
         have c0 := (hk2.cell (o := 0) (by omega) (hnb W.heap.size (by omega))).trans k0
         have c1 := (hk2.cell (o := 1) (by omega) (hnb W.heap.size (by omega))).trans k1
         have HK2 := Lib.hid (HHS.out.keptB hk2 (hnb bb hbb))
         have Z2 := Lib.hid (ZA.out.kept hk2 (hnb _ (by omega)))
         have B2 := Lib.hid (BA.out.trans (hk2.setOwn HHO.out (B := W.heap.size) (by omega) (by omega)))
         have hsz2' := hk2.size
         have hz3 : w1.heap.size + 1 ≤ w2.heap.size := by omega
         have hlt := (HB.out.lt)
         have HLT := Lib.hid hlt
         clear hlt)
      | (clear tk2
         refine stepAppBars (by rfl) _ _ (by rfl) (by rfl) HB.out (by rfl) (HK2.out.dropB (j := k + 1) (by omega) HO2.out) (by simp; omega) (by omega) ?_
         intro v'' w3 ho3 hk3 ha3
         have HB3 := Lib.hid ho3
         obtain ⟨a'', c'', rfl, hi''⟩ := ho3.form
         clear ho3
         have hnb3 : ∀ b, b < w1.heap.size → ¬ (some b = Value.ownBlock (.slice a' (l.take k).length c')) := fun b hb hh => by have := (HLT.out b hh.symm).1; omega
         have cc0 := (hk3.cell (o := 0) (by omega) (hnb3 W.heap.size (by omega))).trans c0
         have cc1 := (hk3.cell (o := 1) (by omega) (hnb3 W.heap.size (by omega))).trans c1
         have Z3 := Lib.hid (Z2.out.kept hk3 (hnb3 _ (by omega)))
         obtain ⟨⟨r0, r1, r2, q0, q1⟩, ⟨y0, y1⟩, zg⟩ := Z3.out
         have B3 := Lib.hid (B2.out.trans (hk3.below (by omega) fun j h1 h2 => by have := (HLT.out j h2.symm).1; omega))
         have hsz3' := hk3.size
         have hz4 : w1.heap.size + 1 ≤ w3.heap.size := by omega))
  have HLM := Lib.hid (show min k l.length + (l.length - (k + 1)) = (cutG l k).length by rw [cutG_length hk]; omega)
  rw [HLM.out]
  go_wp2_with fail
  refine bodyPost_ret (v := .tuple #[.agg #[.int .i64 p, .slice a'' (cutG l k).length c''], .bool true]) (by simp [results, Try.results72, go_sem, zg, q0, q1]) rfl ⟨_, rfl, ?_⟩
  have h9 : OwnBars w3 w1.heap.size (.slice a'' (cutG l k).length c'') (cutG l k) := by
    have := HB3.out
    rw [← HLM.out]
    show OwnBars _ _ _ (l.take k ++ l.drop (k + 1))
    simpa using this
  exact laid2 h9 (by omega) (by omega) (by omega) B3.out

end Go.Proofs.Ytfbmpkdjhhcnpaa


namespace Go.Proofs.Ytfbmpkdjhhcnpaa
open Go.RowKit
set_option maxRecDepth 100000
set_option linter.unusedVariables false
set_option linter.unusedSimpArgs false
theorem barLe_iff (x y : BarT) : barLe x y = true ↔ (x.1 < y.1 ∨ (x.1 = y.1 ∧ x.2 ≤ y.2)) := by
  simp [barLe]
def Ord (l : List BarT) : Prop := l.Pairwise fun x y => barLe x y = true
theorem putL_ord {l : List BarT} (x : BarT) (h : Ord l) : Ord (putL l x) := by
  induction l with
  | nil => exact List.pairwise_singleton _ _
  | cons y t ih =>
    have h' := List.pairwise_cons.1 h
    unfold putL
    split
    · rename_i e
      refine List.pairwise_cons.2 ⟨fun z hz => ?_, ih h'.2⟩
      rcases mem_putL.1 hz with rfl | hz
      · exact e
      · exact h'.1 z hz
    · rename_i e
      have e' : barLe x y = true := by
        have : ¬ barLe y x = true := e
        rw [barLe_iff] at this ⊢
        omega
      refine List.pairwise_cons.2 ⟨fun z hz => ?_, h⟩
      rcases List.mem_cons.1 hz with rfl | hz
      · exact e'
      · have e2 := h'.1 z hz
        rw [barLe_iff] at *
        omega
theorem isGraphB_ord {p : Int} {l : List BarT} (h : isGraphB (p, l) = true) : Ord l := by
  have key : ∀ i x y, l[i]? = some x → l[i + 1]? = some y → barLe x y = true := by
    intro i x y hx hy
    simp only [isGraphB, Bool.and_eq_true] at h
    have h1 := List.all_eq_true.1 h.2.2 (i + 1) (List.mem_range.2 (lt_of_getElem? hy))
    simp only [barAt, hy, Nat.add_sub_cancel, hx, Bool.and_eq_true, Bool.or_eq_true, beq_iff_eq] at h1
    rcases h1.2.2.2 with h2 | h2
    · omega
    · exact h2
  have all : ∀ (d i : Nat) x y, l[i]? = some x → l[i + d]? = some y → barLe x y = true := by
    intro d
    induction d with
    | zero => intro i x y hx hy; rw [Nat.add_zero, hx] at hy; rw [Option.some.inj hy, barLe_iff]; omega
    | succ d ih =>
      intro i x y hx hy
      have hl := lt_of_getElem? hy
      have e1 := ih i x _ hx (List.getElem?_eq_getElem (show i + d < l.length by omega))
      have e2 := key (i + d) _ y (List.getElem?_eq_getElem (show i + d < l.length by omega)) hy
      rw [barLe_iff] at *
      omega
  refine List.pairwise_iff_getElem.2 fun i j hi hj hij => ?_
  exact all (j - i) i _ _ (List.getElem?_eq_getElem hi) (by rw [show i + (j - i) = j by omega]; exact List.getElem?_eq_getElem hj)
theorem isGraphB_of {p : Int} {l : List BarT} (hp : inB p 1 8 = true) (hl : l.length ≤ 24) (hb : ∀ x ∈ l, 0 ≤ x.1 ∧ x.1 < x.2 ∧ x.2 < p) (ho : Ord l) : isGraphB (p, l) = true := by
  unfold isGraphB barsOk
  simp only [Bool.and_eq_true, decide_eq_true_eq, List.all_eq_true, List.mem_range]
  refine ⟨hp, hl, fun i hi => ?_⟩
  have hx := hb _ (List.getElem_mem hi)
  unfold barAt
  rw [List.getElem?_eq_getElem hi]
  dsimp only
  simp only [Bool.and_eq_true, decide_eq_true_eq, Bool.or_eq_true, beq_iff_eq]
  refine ⟨hx.1, hx.2.1, hx.2.2, ?_⟩
  by_cases h0 : i = 0
  · exact .inl h0
  · right
    rw [List.getElem?_eq_getElem (show i - 1 < l.length by omega)]
    exact List.pairwise_iff_getElem.1 ho (i - 1) i (by omega) hi (by omega)
theorem isGraphB_sub {p : Int} {l m : List BarT} (h : isGraphB (p, l) = true) (hs : m.Sublist l) : isGraphB (p, m) = true := by
  have h2 := isGraphB_bd h
  refine isGraphB_of (by simp [inB]; omega) (Nat.le_trans hs.length_le h2.2) (fun x hx => ?_) (List.Pairwise.sublist hs (isGraphB_ord h))
  obtain ⟨k, hk⟩ := List.getElem?_of_mem (hs.subset hx)
  exact isGraphB_bar h hk
theorem graph_put {p : Int} {l : List BarT} {x : BarT} (h : isGraphB (p, l) = true) (hl : l.length ≤ 23) (hx : 0 ≤ x.1 ∧ x.1 < x.2 ∧ x.2 < p) : isGraphB (p, putL l x) = true := by
  have h2 := isGraphB_bd h
  refine isGraphB_of (by simp [inB]; omega) (by rw [putL_length]; omega) (fun y hy => ?_) (putL_ord x (isGraphB_ord h))
  rcases mem_putL.1 hy with rfl | hy
  · exact hx
  · obtain ⟨k, hk⟩ := List.getElem?_of_mem hy
    exact isGraphB_bar h hk
theorem cutG_sub (l : List BarT) (k : Nat) : (cutG l k).Sublist l := by
  unfold cutG
  conv => rhs; rw [← List.take_append_drop k l]
  exact List.Sublist.append (List.Sublist.refl _) (by rw [← List.drop_drop]; exact List.drop_sublist _ _)
/-- a graph whose bars lie below v -/
structure LmG (P : Int) (v m : Nat) (bs : List BarT) : Prop where
  g : isGraphB (P, bs) = true
  lo : 1 ≤ bs.length
  hi : bs.length ≤ m
  lt : ∀ x ∈ bs, x.2 < v
theorem LmG.put {P : Int} {v v' m : Nat} {bs : List BarT} (h : LmG P v m bs) (hm : m ≤ 22) (hv : v ≤ v') {x : BarT} (hx : 0 ≤ x.1 ∧ x.1 < x.2 ∧ x.2 < P) (hxv : x.2 < v') : LmG P v' (m + 1) (putL bs x) :=
  ⟨graph_put h.g (by have := h.hi; omega) hx, by rw [putL_length]; omega, by rw [putL_length]; have := h.hi; omega, fun y hy => by
    rcases mem_putL.1 hy with rfl | hy
    · exact hxv
    · have := h.lt y hy; omega⟩
end Go.Proofs.Ytfbmpkdjhhcnpaa

namespace Go.Proofs.Ytfbmpkdjhhcnpaa
open Go.RowKit
set_option maxRecDepth 100000
set_option linter.unusedVariables false
set_option linter.unusedSimpArgs false
set_option maxHeartbeats 4000000 in
theorem l6Third_at (W0 w : World) (g : Nat) (ca : Option Addr) (n cap : Nat) (l : List Int) (hB : BytesAt W0 ca n l) (hn : n ≤ 1099511627776) (h : Drw W0 w g ca n cap l) (m x1 x2 o : Int) (hm : 1 ≤ m ∧ m ≤ 256) (ho : 0 ≤ o ∧ o ≤ m - 1) :
    Calls Try.prog 71 #[.pointer (some ⟨g, 0, none⟩), .int .i64 m, .agg #[.int .i64 x1, .int .i64 x2], .int .i64 o] w (RetDi W0 w g ca n cap l 0 (m - 1)) := by
  have ba := belAl w (.cells #[.int .i64 x1, .int .i64 x2] 56)
  have HC := Lib.hid (l1Below_at W0 _ g ca n cap l hB hn (h.below ba) m hm)
  have c0 : (w.alloc (.cells #[.int .i64 x1, .int .i64 x2] 56)).cell? ⟨w.heap.size, 0, none⟩ = some (.int .i64 x1) := by simp
  have c1 : (w.alloc (.cells #[.int .i64 x1, .int .i64 x2] 56)).cell? ⟨w.heap.size, 1, none⟩ = some (.int .i64 x2) := by simp
  have hgw := h.hi
  have hz : w.heap.size < (w.alloc (.cells #[.int .i64 x1, .int .i64 x2] 56)).heap.size := by simp
  have KA := Lib.hid (Kept.of_below (S := fun b => b = g) ba)
  clear hB h ba
  go_enter Try.func71, Try.ntmps71
  go_upto_region 1 with (fail)
  generalize (w.alloc (.cells #[.int .i64 x1, .int .i64 x2] 56)) = u at *
  go_wp2_with fail
  refine HC.out.mono ?_
  rintro e w1 ⟨x, hx, rfl, d1, k1⟩
  have D1 := Lib.hid d1
  have K1 := Lib.hid (KA.out.trans k1)
  have e0 := (k1.cell (o := 0) hz (show ¬ w.heap.size = g by omega)).trans c0
  have e1 := (k1.cell (o := 1) hz (show ¬ w.heap.size = g by omega)).trans c1
  have z1 := Nat.lt_of_lt_of_le hz k1.size
  clear d1 k1 c0 c1 HC KA
  cases h1 : (x == x1)
  · cases h2 : (x == x2)
    · go_wp2_with fail
      go_ret
      exact ⟨x, hx, rfl, D1.out, K1.out⟩
    · go_wp2_with fail
      go_ret
      exact ⟨o, ho, rfl, D1.out, K1.out⟩
  · go_wp2_with fail
    go_ret
    exact ⟨o, ho, rfl, D1.out, K1.out⟩
end Go.Proofs.Ytfbmpkdjhhcnpaa

