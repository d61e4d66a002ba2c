/- IsFramework of the program and of the reference. -/
import Derived.Test.YtfdhbbhfilkafaaIsg2
import Derived.Test.YtfdhbbhfilkafaaPl
namespace Go.Proofs.Ytfdhbbhfilkafaa
open Go.RowKit
set_option maxRecDepth 100000
set_option linter.unusedVariables false
set_option linter.unusedSimpArgs false

def fwBarAt (l : List BarT) (q : List PlaceT) (i : Nat) : Bool := match l[i]? with
  | none => true
  | some x => !(decide (0 < i) && decide (l[i - 1]? = some x)) && !decide (q[x.1.toNat]? = q[x.2.toNat]?)
def isFwB (f : FwT) : Bool := isGraphB (f.1, f.2.1) && (decide (f.1 ≤ 6) && (decide ((f.2.2.length : Int) = f.1) && (decide (f.2.1.length ≤ 15) && (f.2.2.all (fun x => onB x.1 x.2) && (List.range f.2.1.length).all (fwBarAt f.2.1 f.2.2)))))
theorem isGraphB_bd {p : Int} {l : List BarT} (h : isGraphB (p, l) = true) : (1 ≤ p ∧ p ≤ 8) ∧ l.length ≤ 24 := by
  simp [isGraphB, inB] at h; omega
theorem isGraphB_bar {p : Int} {l : List BarT} (h : isGraphB (p, l) = true) {i : Nat} {x : BarT} (hx : l[i]? = some x) : 0 ≤ x.1 ∧ x.1 < x.2 ∧ x.2 < p := by
  simp only [isGraphB, barsOk, Bool.and_eq_true, List.all_eq_true] at h
  have h1 := h.2.2 i (List.mem_range.2 (lt_of_getElem? hx))
  simp only [barAt, hx, Bool.and_eq_true, decide_eq_true_eq] at h1
  exact ⟨h1.1, h1.2.1, h1.2.2.1⟩
theorem isFw_place {p : Int} {l : List BarT} {q : List PlaceT} {k : Nat} {x1 x2 : Int} (h : q[k]? = some (x1, x2)) (hx : onB x1 x2 = false) : isFwB (p, l, q) = false := by
  have : q.all (fun x => onB x.1 x.2) = false := List.all_eq_false.2 ⟨_, List.mem_of_getElem? h, by simp [hx]⟩
  simp only [isFwB, this, Bool.false_and, Bool.and_false]
theorem isFw_bar {p : Int} {l : List BarT} {q : List PlaceT} {j : Nat} (hj : j < l.length) (h : fwBarAt l q j = false) : isFwB (p, l, q) = false := by
  have : (List.range l.length).all (fwBarAt l q) = false := List.all_eq_false.2 ⟨j, List.mem_range.2 hj, by simp [h]⟩
  simp only [isFwB, this, Bool.false_and, Bool.and_false]

theorem specIsGraph_n (W : World) (p : Int) (a : Option Addr) (cap n : Nat) (l : List BarT) (h : BarsAt W a n l) (hn : n ≤ 1099511627776) :
    Calls Try.prog 65 #[.agg #[.int .i64 p, .slice a n cap]] W fun e w' => e = .returned (.bool (isGraphB (p, l))) ∧ Below W.heap.size W w' := by
  obtain rfl := h.1
  exact specIsGraph_at W p a cap l h hn

set_option maxHeartbeats 16000000 in
theorem specIsFw_at (W : World) (p : Int) (a : Option Addr) (cap : Nat) (l : List BarT) (c : Option Addr) (capc : Nat) (q : List PlaceT) (h : BarsAt W a l.length l) (hq : PlacesAt W c q.length q) (hn : l.length ≤ 1099511627776) (hnq : q.length ≤ 1099511627776) :
    Calls Try.prog 15 #[.agg #[.int .i64 p, .slice a l.length cap, .slice c q.length capc]] W fun e w' => e = .returned (.bool (isFwB (p, l, q))) ∧ Below W.heap.size W w' := by
  have hwd := @Wd.cells
  have hgB := guardBar
  have hgP := guardPlace
  have HI := Lib.hid h
  have HJ := Lib.hid hq
  clear h hq
  generalize hL : l.length = n at *
  generalize hT : q.length = t at *
  have HL := Lib.hid hL
  have HT := Lib.hid hT
  have HB0 : Hid (Below W.heap.size W (W.alloc (.cells #[.int .i64 p, .slice a n cap, .slice c t capc] 29))) := (Below.refl _ W).alloc (Nat.le_refl _) _
  cases hg : isGraphB (p, l)
  · have HF := Lib.hid (ret_bool (show isFwB (p, l, q) = false by simp only [isFwB, hg, Bool.false_and]))
    go_enter Try.func15, Try.ntmps15
    go_wp2_with fail
    refine (specIsGraph_n _ _ _ _ _ _ (HI.out.below HB0.out) (by omega)).mono ?_
    rintro e W0 ⟨rfl, b1⟩
    rw [hg]
    have HB1 : Hid (Below W.heap.size W W0) := HB0.out.trans (b1.mono (by simp <;> omega))
    clear b1
    go_wp2_with fail
    go_ret
    exact ⟨HF.out.symm, HB1.out⟩
  have hgb := isGraphB_bd hg
  obtain ⟨hgb1, hgb2⟩ := hgb
  rw [hL] at hgb2
  clear hL hT
  by_cases h6 : 6 < p
  · have hd6 : decide (6 < p) = true := decide_eq_true h6
    have HF := Lib.hid (ret_bool (show isFwB (p, l, q) = false by have h6b : decide (p ≤ 6) = false := decide_eq_false (by omega); simp only [isFwB, h6b, Bool.false_and, Bool.and_false]))
    go_enter Try.func15, Try.ntmps15
    go_wp2_with fail
    refine (specIsGraph_n _ _ _ _ _ _ (HI.out.below HB0.out) (by omega)).mono ?_
    rintro e W0 ⟨rfl, b1⟩
    rw [hg]
    have hz : W.heap.size + 1 ≤ W0.heap.size := by have := b1.size; simp at this; omega
    have g0 : W0.cell? ⟨W.heap.size, 0, none⟩ = some (.int .i64 p) := by rw [(bcell b1).1 _ _ (by simp <;> omega)]; simp [World.cell?_alloc_new]
    have g1 : W0.cell? ⟨W.heap.size, 1, none⟩ = some (.slice a n cap) := by rw [(bcell b1).1 _ _ (by simp <;> omega)]; simp [World.cell?_alloc_new]
    have g2 : W0.cell? ⟨W.heap.size, 2, none⟩ = some (.slice c t capc) := by rw [(bcell b1).1 _ _ (by simp <;> omega)]; simp [World.cell?_alloc_new]
    have HB1 : Hid (Below W.heap.size W W0) := HB0.out.trans (b1.mono (by simp <;> omega))
    clear b1
    have hs1 : W.heap.size < W0.heap.size := by omega
    have hs2 : W.heap.size ≤ W0.heap.size := by omega
    go_wp2_with fail
    go_ret
    exact ⟨HF.out.symm, HB1.out⟩
  have hd6 : decide (6 < p) = false := decide_eq_false h6
  by_cases hpt : (t : Int) = p
  rotate_left
  · have hq1 : ((t : Int) != p) = true := by simpa using hpt
    have HF := Lib.hid (ret_bool (show isFwB (p, l, q) = false by have h16 : decide ((q.length : Int) = p) = false := decide_eq_false (by have := HT.out; omega); simp only [isFwB, h16, Bool.false_and, Bool.and_false]))
    go_enter Try.func15, Try.ntmps15
    go_wp2_with fail
    refine (specIsGraph_n _ _ _ _ _ _ (HI.out.below HB0.out) (by omega)).mono ?_
    rintro e W0 ⟨rfl, b1⟩
    rw [hg]
    have hz : W.heap.size + 1 ≤ W0.heap.size := by have := b1.size; simp at this; omega
    have g0 : W0.cell? ⟨W.heap.size, 0, none⟩ = some (.int .i64 p) := by rw [(bcell b1).1 _ _ (by simp <;> omega)]; simp [World.cell?_alloc_new]
    have g1 : W0.cell? ⟨W.heap.size, 1, none⟩ = some (.slice a n cap) := by rw [(bcell b1).1 _ _ (by simp <;> omega)]; simp [World.cell?_alloc_new]
    have g2 : W0.cell? ⟨W.heap.size, 2, none⟩ = some (.slice c t capc) := by rw [(bcell b1).1 _ _ (by simp <;> omega)]; simp [World.cell?_alloc_new]
    have HB1 : Hid (Below W.heap.size W W0) := HB0.out.trans (b1.mono (by simp <;> omega))
    clear b1
    have hs1 : W.heap.size < W0.heap.size := by omega
    have hs2 : W.heap.size ≤ W0.heap.size := by omega
    go_wp2_with fail
    go_ret
    exact ⟨HF.out.symm, HB1.out⟩
  have hq1 : ((t : Int) != p) = false := by simpa using hpt
  have HPT := Lib.hid hpt
  have hpt1 : (t : Int) ≤ p := by omega
  have hpt2 : p ≤ (t : Int) := by omega
  clear hpt
  by_cases h15 : 15 < n
  · have hd15 : decide (15 < n) = true := decide_eq_true h15
    have HF := Lib.hid (ret_bool (show isFwB (p, l, q) = false by have h15b : decide (l.length ≤ 15) = false := decide_eq_false (by have := HL.out; omega); simp only [isFwB, h15b, Bool.false_and, Bool.and_false]))
    go_enter Try.func15, Try.ntmps15
    go_wp2_with fail
    refine (specIsGraph_n _ _ _ _ _ _ (HI.out.below HB0.out) (by omega)).mono ?_
    rintro e W0 ⟨rfl, b1⟩
    rw [hg]
    have hz : W.heap.size + 1 ≤ W0.heap.size := by have := b1.size; simp at this; omega
    have g0 : W0.cell? ⟨W.heap.size, 0, none⟩ = some (.int .i64 p) := by rw [(bcell b1).1 _ _ (by simp <;> omega)]; simp [World.cell?_alloc_new]
    have g1 : W0.cell? ⟨W.heap.size, 1, none⟩ = some (.slice a n cap) := by rw [(bcell b1).1 _ _ (by simp <;> omega)]; simp [World.cell?_alloc_new]
    have g2 : W0.cell? ⟨W.heap.size, 2, none⟩ = some (.slice c t capc) := by rw [(bcell b1).1 _ _ (by simp <;> omega)]; simp [World.cell?_alloc_new]
    have HB1 : Hid (Below W.heap.size W W0) := HB0.out.trans (b1.mono (by simp <;> omega))
    clear b1
    have hs1 : W.heap.size < W0.heap.size := by omega
    have hs2 : W.heap.size ≤ W0.heap.size := by omega
    go_wp2_with fail
    go_ret
    exact ⟨HF.out.symm, HB1.out⟩
  have hd15 : decide (15 < n) = false := decide_eq_false h15
  go_enter Try.func15, Try.ntmps15
  go_wp2_with fail
  refine (specIsGraph_n _ _ _ _ _ _ (HI.out.below HB0.out) (by omega)).mono ?_
  rintro e W0 ⟨rfl, b1⟩
  rw [hg]
  have hz : W.heap.size + 1 ≤ W0.heap.size := by have := b1.size; simp at this; omega
  have g0 : W0.cell? ⟨W.heap.size, 0, none⟩ = some (.int .i64 p) := by rw [(bcell b1).1 _ _ (by simp <;> omega)]; simp [World.cell?_alloc_new]
  have g1 : W0.cell? ⟨W.heap.size, 1, none⟩ = some (.slice a n cap) := by rw [(bcell b1).1 _ _ (by simp <;> omega)]; simp [World.cell?_alloc_new]
  have g2 : W0.cell? ⟨W.heap.size, 2, none⟩ = some (.slice c t capc) := by rw [(bcell b1).1 _ _ (by simp <;> omega)]; simp [World.cell?_alloc_new]
  have HB1 : Hid (Below W.heap.size W W0) := HB0.out.trans (b1.mono (by simp <;> omega))
  clear b1
  have hs1 : W.heap.size < W0.heap.size := by omega
  have hs2 : W.heap.size ≤ W0.heap.size := by omega
  have HC := Lib.hid (HI.out.below HB1.out).2
  have HCQ := Lib.hid (HJ.out.below HB1.out).2
  go_wp2_with fail
  go_loop [3] (fun i => ∃ k : Nat, k ≤ t ∧ i = .int .i64 k ∧ (q.take k).all (fun x => onB x.1 x.2) = true) (fun i => t - (intOf i).toNat)
  case atStart => exact ⟨0, Nat.zero_le _, rfl, by simp⟩
  case round =>
    obtain ⟨k, hk, rfl, hall⟩ := hrel
    have HA := Lib.hid hall
    clear hall
    by_cases hlt : k < t
    · skip
      obtain ⟨b, off, ⟨x1, x2⟩, rfl, hbl, hx, hc0, hc1⟩ := HCQ.out k hlt
      dsimp only at hc0 hc1
      have HX := Lib.hid hx
      clear hx
      cases e1 : inB x1 0 4
      · have HF := Lib.hid (ret_bool (isFw_place (p := p) (l := l) HX.out (by simp [onB, e1])))
        go_wp2_with (go_at_call 66; refine (l1In_any _ _ _ _).mono ?_; rintro e w' ⟨rfl, rfl⟩)
        go_ret
        exact ⟨HF.out.symm, HB1.out⟩
      · cases e2 : inB x2 0 4
        · have HF := Lib.hid (ret_bool (isFw_place (p := p) (l := l) HX.out (by simp [onB, e1, e2])))
          go_wp2_with (go_at_call 66; refine (l1In_any _ _ _ _).mono ?_; rintro e w' ⟨rfl, rfl⟩)
          go_ret
          exact ⟨HF.out.symm, HB1.out⟩
        · go_wp2_with (go_at_call 66; refine (l1In_any _ _ _ _).mono ?_; rintro e w' ⟨rfl, rfl⟩)
          go_round
          case rel => exact ⟨k + 1, by omega, by go_num, all_take_succ HX.out HA.out (by simp [onB, e1, e2])⟩
          case measure => simp [intOf]; omega
    · obtain rfl : k = t := by omega
      have hall2 : q.all (fun x => onB x.1 x.2) = true := by have h1 := HA.out; rwa [List.take_of_length_le (by have := HT.out; omega)] at h1
      have HA2 := Lib.hid hall2
      clear hall2

      go_wp2_with fail
      go_loopw [4] (fun i w9 => ∃ j : Nat, j ≤ n ∧ i = .int .i64 j ∧ (List.range j).all (fwBarAt l q) = true ∧ Below W0.heap.size W0 w9) (fun i _ => n - (intOf i).toNat)
      case atStart => exact ⟨0, Nat.zero_le _, rfl, by simp, Below.refl _ _⟩
      case round =>
        
        obtain ⟨j, hj, rfl, hall, hb⟩ := hrel
        have HB := Lib.hid hall
        clear hall
        obtain ⟨wz, hwz⟩ : ∃ wz, wz = wr := ⟨_, rfl⟩
        have hbz := hb.size
        have q0 := (hb.cell (p := ⟨W.heap.size, 0, none⟩) hs1).trans g0
        have q1 := (hb.cell (p := ⟨W.heap.size, 1, none⟩) hs1).trans g1
        have q2 := (hb.cell (p := ⟨W.heap.size, 2, none⟩) hs1).trans g2
        clear hwz
        have hu1 : W.heap.size < wr.heap.size := by omega
        have hu2 : W.heap.size ≤ wr.heap.size := by omega
        have hu3 : W.heap.size < wr.heap.size + 1 := by omega
        by_cases hjl : j < n
        · obtain ⟨b, off, ⟨x1, x2⟩, rfl, hbl, hx, hc0, hc1⟩ := HC.out j hjl
          dsimp only at hc0 hc1
          obtain ⟨hx1, hx2, hx3⟩ := isGraphB_bar hg hx
          dsimp only at hx1 hx2 hx3
          obtain ⟨i1, rfl⟩ := Int.eq_ofNat_of_zero_le hx1
          obtain ⟨i2, rfl⟩ := Int.eq_ofNat_of_zero_le (show 0 ≤ x2 by omega)
          have HX := Lib.hid hx
          have d0 := (hb.cell (p := ⟨b, off + j * 2, none⟩) hbl).trans hc0
          have d1 := (hb.cell (p := ⟨b, off + j * 2 + 1, none⟩) hbl).trans hc1
          have hr1 : b < wr.heap.size := by omega
          have hr2 : b ≤ wr.heap.size := by omega
          have hr3 : b < wr.heap.size + 1 := by omega
          clear hc0 hc1 hx
          have hi1 : i1 < k := by omega
          have hi2 : i2 < k := by omega
          obtain ⟨bq, offq, ⟨y1, y2⟩, rfl, hbq, hy, hy0, hy1⟩ := HCQ.out i1 hi1
          obtain ⟨bq', offq', ⟨z1, z2⟩, hab, hbq', hzz, hz0, hz1⟩ := HCQ.out i2 hi2
          simp only [Option.some.injEq, Addr.mk.injEq, and_true] at hab
          obtain ⟨rfl, rfl⟩ := hab
          dsimp only at hy0 hy1 hz0 hz1
          have HY := Lib.hid hy
          have HZ := Lib.hid hzz
          have p0 := (hb.cell (p := ⟨bq, offq + i1 * 2, none⟩) hbq).trans hy0
          have p1 := (hb.cell (p := ⟨bq, offq + i1 * 2 + 1, none⟩) hbq).trans hy1
          have r0 := (hb.cell (p := ⟨bq, offq + i2 * 2, none⟩) hbq).trans hz0
          have r1 := (hb.cell (p := ⟨bq, offq + i2 * 2 + 1, none⟩) hbq).trans hz1
          have hm1 : bq < wr.heap.size := by omega
          have hm2 : bq ≤ wr.heap.size := by omega
          have hm3 : bq < wr.heap.size + 1 := by omega
          clear hy hzz hy0 hy1 hz0 hz1 g0 g1 g2
          by_cases hpq : (((y1, y2) : PlaceT) = (z1, z2))
          · have HPQ := Lib.hid hpq
            have hcp := fun w => eqlPlace_t hpq w
            clear hpq
            have HF := Lib.hid (ret_bool (isFw_bar (p := p) (l := l) (q := q) (j := j) (by have := HL.out; omega) (by simp only [fwBarAt, HX.out, Int.toNat_natCast, HY.out, HZ.out, HPQ.out]; simp)))
            go_wp2_with fail
            refine wp_region_wd (by kernel_rfl) (by kernel_rfl) ?_
            repeat (go_big_quiet_step (fail))
            refine wpQuiet_nil ?_
            intro n1
            have hbn : Below W0.heap.size W0 n1.w := (hb.alloc hb.size _).trans (n1.h.mono (by simp; omega))
            go_wp2_with fail
            go_ret
            exact ⟨HF.out.symm, HB1.out.trans (hbn.mono (by omega))⟩
          · have HPQ := Lib.hid hpq
            have hcp := fun w => eqlPlace_f hpq w
            clear hpq
            by_cases hj0 : j = 0
            · subst hj0
              simp only [Nat.zero_mul, Nat.add_zero] at d0 d1
              have HAT := Lib.hid (show fwBarAt l q 0 = true by have h9 : decide ((some (y1, y2) : Option PlaceT) = some (z1, z2)) = false := decide_eq_false (fun hh => HPQ.out (Option.some.inj hh)); simp only [fwBarAt, HX.out, Int.toNat_natCast, HY.out, HZ.out, h9]; simp)
              go_wp2_with fail
              refine wp_region_wd (by kernel_rfl) (by kernel_rfl) ?_
              repeat (go_big_quiet_step (fail))
              refine wpQuiet_nil ?_
              intro n1
              have hbn : Below W0.heap.size W0 n1.w := (hb.alloc hb.size _).trans (n1.h.mono (by simp; omega))
              go_wp2_with fail
              go_roundw
              case rel => exact ⟨1, by omega, by go_num, by simp [List.range_succ, HAT.out], hbn⟩
              case measure => simp [intOf]; omega
            · obtain ⟨b2, off2, ⟨v1, v2⟩, hab, hbl2, hv, hva, hvb⟩ := HC.out (j - 1) (by omega)
              simp only [Option.some.injEq, Addr.mk.injEq, and_true] at hab
              obtain ⟨rfl, rfl⟩ := hab
              dsimp only at hva hvb
              have HV := Lib.hid hv
              have t0 := (hb.cell (p := ⟨b, off + (j - 1) * 2, none⟩) hbl).trans hva
              have t1 := (hb.cell (p := ⟨b, off + (j - 1) * 2 + 1, none⟩) hbl).trans hvb
              clear hv hva hvb
              have hj1 : (0 : Int) < (j : Int) := by omega
              have hdj : decide ((0 : Int) < (j : Int)) = true := decide_eq_true hj1
              have hdj2 : decide (0 < j) = true := decide_eq_true (by omega)
              have hjm1 : (0 : Int) ≤ (j : Int) - 1 := by omega
              have hjm2 : (j : Int) - 1 < (n : Int) := by omega
              by_cases hbb : (((v1, v2) : BarT) = ((i1 : Int), (i2 : Int)))
              · have hcb := fun w => eqlBar_t hbb w
                have HF := Lib.hid (ret_bool (isFw_bar (p := p) (l := l) (q := q) (j := j) (by have := HL.out; omega) (by simp only [fwBarAt, HX.out, HV.out, hbb]; simp [hj0])))
                clear hbb
                go_wp2_with fail
                refine wp_region_wd (by kernel_rfl) (by kernel_rfl) ?_
                repeat (go_big_quiet_step (fail))
                refine wpQuiet_nil ?_
                intro n1
                have hbn : Below W0.heap.size W0 n1.w := (hb.alloc hb.size _).trans (n1.h.mono (by simp; omega))
                go_wp2_with fail
                go_ret
                exact ⟨HF.out.symm, HB1.out.trans (hbn.mono (by omega))⟩
              · have hcb := fun w => eqlBar_f hbb w
                have HAT := Lib.hid (show fwBarAt l q j = true by simp only [fwBarAt, HX.out, HV.out, Int.toNat_natCast, HY.out, HZ.out, Option.some.injEq, hbb, HPQ.out]; simp)
                clear hbb
                go_wp2_with fail
                refine wp_region_wd (by kernel_rfl) (by kernel_rfl) ?_
                repeat (go_big_quiet_step (fail))
                refine wpQuiet_nil ?_
                intro n1
                have hbn : Below W0.heap.size W0 n1.w := (hb.alloc hb.size _).trans (n1.h.mono (by simp; omega))
                go_wp2_with fail
                go_roundw
                case rel => exact ⟨j + 1, by omega, by go_num, range_all_succ HB.out HAT.out, hbn⟩
                case measure => simp [intOf]; omega
        · obtain rfl : j = n := by omega
          have HF := Lib.hid (ret_bool (show isFwB (p, l, q) = true by
            have h1 := HB.out
            have h2 := HA2.out
            have h3 := HL.out
            have h4 := HT.out
            have h5 := HPT.out
            rw [← h3] at h1
            have hA : decide (p ≤ 6) = true := decide_eq_true (by omega)
            have hB : decide ((q.length : Int) = p) = true := decide_eq_true (by omega)
            have hC : decide (l.length ≤ 15) = true := decide_eq_true (by omega)
            simp only [isFwB, hg, hA, hB, hC, h1, h2, Bool.and_self]))
          go_wp2_with fail
          go_ret
          exact ⟨HF.out.symm, HB1.out.trans (hb.mono (by omega))⟩


end Go.Proofs.Ytfdhbbhfilkafaa
