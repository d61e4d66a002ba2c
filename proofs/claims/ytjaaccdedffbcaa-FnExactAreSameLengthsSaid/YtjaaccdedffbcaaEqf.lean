/- EqualGraphs and EqualFrameworks of the program and of the reference. -/
import Derived.Test.YtjaaccdedffbcaaFw
namespace Go.Proofs.Ytjaaccdedffbcaa
open Go.RowKit
set_option linter.unusedVariables false
set_option linter.unusedSimpArgs false

set_option maxHeartbeats 2000000 in
theorem slEqBars_any (a a' : Option Addr) (n cap n' cap' : Nat) (l l' : List BarT) (W : World) (h : BarsAt W a n l) (h' : BarsAt W a' n' l') (hn : n ≤ 1099511627776) :
    Calls Try.prog 94 #[.slice a n cap, .slice a' n' cap'] W fun e w' => e = .returned (.bool (decide (l = l'))) ∧ ∃ m, w' = W.drewN m := by
  have hgd := guardBar
  obtain ⟨hl, hc⟩ := h
  obtain ⟨hl', hc'⟩ := h'
  have HL := Lib.hid hl
  have HL' := Lib.hid hl'
  have HC := Lib.hid hc
  have HC' := Lib.hid hc'
  clear hl hc hl' hc'
  by_cases hnn : n = n'
  · subst hnn
    go_enter Try.func94, Try.ntmps94
    go_wp2
    go_loopw [13] (fun i wr => ∃ k : Nat, k ≤ n ∧ i = .int .i64 k ∧ (∃ m, wr = W.drewN m) ∧ l.take k = l'.take k) (fun i _ => n - (intOf i).toNat)
    case atStart => exact ⟨0, Nat.zero_le _, rfl, ⟨0, rfl⟩, rfl⟩
    case round =>
      obtain ⟨k, hk, rfl, ⟨m, rfl⟩, hp⟩ := hrel
      have HP := Lib.hid hp
      clear hp
      by_cases hlt : k < n
      · obtain ⟨b, off, ⟨x1, x2⟩, rfl, hbl, hx, hc0, hc1⟩ := HC.out k hlt
        obtain ⟨b', off', ⟨y1, y2⟩, rfl, hbl', hx', hd0, hd1⟩ := HC'.out k hlt
        have HX := Lib.hid hx
        have HX' := Lib.hid hx'
        clear hx hx'
        dsimp only at hc0 hc1 hd0 hd1
        by_cases hxx : (((x1, x2) : BarT) = (y1, y2))
        · have HXX := Lib.hid hxx
          have hcmp := fun w => neqBar_t hxx w
          clear hxx
          go_wp2
          go_quiet (fail)
          go_wp2
          go_roundw
          case rel => exact ⟨k + 1, by omega, by go_num, (by first | exact ⟨_, rfl⟩ | exact ⟨_, World.drewN_drewN _ _ _⟩), by rw [take_succ_of HX.out, take_succ_of HX'.out, HP.out, HXX.out]⟩
          case measure => simp [intOf]; omega
        · have HXX := Lib.hid hxx
          have hcmp := fun w => neqBar_f hxx w
          clear hxx
          go_wp2
          go_quiet (fail)
          go_wp2
          go_ret
          refine ⟨?_, by first | exact ⟨_, rfl⟩ | exact ⟨_, World.drewN_drewN _ _ _⟩⟩
          rw [show decide (l = l') = false from decide_eq_false fun e => HXX.out (Option.some.inj (by rw [← HX.out, ← HX'.out, e]))]
          try rfl
      · obtain rfl : k = n := by omega
        go_wp2
        go_ret
        have h1 := HP.out
        rw [List.take_of_length_le (by have := HL.out; omega), List.take_of_length_le (by have := HL'.out; omega)] at h1
        exact ⟨by simp [h1], m, rfl⟩
  · have hne : (n != n') = true := by simpa using hnn
    have hne2 : ((n : Int) != (n' : Int)) = true := by simp; omega
    go_enter Try.func94, Try.ntmps94
    go_wp2
    go_ret
    refine ⟨?_, 0, rfl⟩
    rw [show decide (l = l') = false from decide_eq_false fun e => hnn (by rw [← HL.out, ← HL'.out, e])]
    try rfl

theorem slEqBars_is (W : World) (v v' : Value) (l l' : List BarT) (h : IsBars W v l) (h' : IsBars W v' l') (hn : l.length ≤ 1099511627776) : Calls Try.prog 94 #[v, v'] W fun e w' => e = .returned (.bool (decide (l = l'))) ∧ ∃ m, w' = W.drewN m := by
  obtain ⟨a, cap, rfl, hi⟩ := h
  obtain ⟨a', cap', rfl, hi'⟩ := h'
  exact slEqBars_any _ _ _ _ _ _ _ _ _ hi hi' hn

set_option maxHeartbeats 2000000 in
theorem implEqG_any (W : World) (p p' : Int) (a a' : Option Addr) (cap cap' : Nat) (l l' : List BarT) (h : BarsAt W a l.length l) (h' : BarsAt W a' l'.length l') (hn : l.length ≤ 1099511627776) :
    Calls Try.prog 68 #[.agg #[.int .i64 p, .slice a l.length cap], .agg #[.int .i64 p', .slice a' l'.length cap']] W fun e w' => e = .returned (.bool (p == p' && decide (l = l'))) ∧ Below W.heap.size W w' := by
  have HI := Lib.hid h
  have HI' := Lib.hid h'
  clear h h'
  have HB0 : Hid (Below W.heap.size W ((W.alloc (.cells #[.int .i64 p, .slice a l.length cap] 44)).alloc (.cells #[.int .i64 p', .slice a' l'.length cap'] 44))) := ((Below.refl _ W).alloc (Nat.le_refl _) _).alloc (by simp) _
  by_cases hp : p = p'
  · subst hp
    have HF := Lib.hid (ret_bool (show (p == p && decide (l = l')) = decide (l = l') by simp))
    go_enter Try.func68, Try.ntmps68
    go_wp2_with fail
    refine (slEqBars_any _ _ _ _ _ _ _ _ _ (HI.out.below HB0.out) (HI'.out.below HB0.out) (by omega)).mono ?_
    rintro e w1 ⟨rfl, m, rfl⟩
    go_wp2_with fail
    go_ret
    exact ⟨HF.out.symm, below_drewN HB0.out _⟩
  · have hpp : (p == p') = false := by simpa using hp
    have HF := Lib.hid (ret_bool (show (p == p' && decide (l = l')) = false by simp [hpp]))
    go_enter Try.func68, Try.ntmps68
    go_wp2_with fail
    go_ret
    exact ⟨HF.out.symm, HB0.out⟩

set_option maxHeartbeats 4000000 in
theorem specEqG_any (W : World) (p p' : Int) (a a' : Option Addr) (cap cap' : Nat) (l l' : List BarT) (h : BarsAt W a l.length l) (h' : BarsAt W a' l'.length l') (hn : l.length ≤ 1099511627776) :
    Calls Try.prog 65 #[.agg #[.int .i64 p, .slice a l.length cap], .agg #[.int .i64 p', .slice a' l'.length cap']] W fun e w' => e = .returned (.bool (p == p' && decide (l = l'))) ∧ Below W.heap.size W w' := by
  have hgd := guardBar
  have HI := Lib.hid h
  have HI' := Lib.hid h'
  clear h h'
  generalize hL : l.length = n at *
  generalize hL' : l'.length = n' at *
  have HL := Lib.hid hL
  have HL' := Lib.hid hL'
  clear hL hL'
  have HB0 : Hid (Below W.heap.size W ((W.alloc (.cells #[.int .i64 p, .slice a n cap] 44)).alloc (.cells #[.int .i64 p', .slice a' n' cap'] 44))) := ((Below.refl _ W).alloc (Nat.le_refl _) _).alloc (by simp) _
  by_cases hp : p = p'
  · subst hp
    by_cases hnn : n = n'
    · subst hnn
      go_enter Try.func65, Try.ntmps65
      go_wp2_with fail
      obtain ⟨W0, hW0⟩ : ∃ W0, W0 = (W.alloc (.cells #[.int .i64 p, .slice a n cap] 44)).alloc (.cells #[.int .i64 p, .slice a' n cap'] 44) := ⟨_, rfl⟩
      rw [← hW0]
      have hs0 : W0.heap.size = W.heap.size + 1 + 1 := by rw [hW0]; simp
      have g0 : W0.cell? ⟨W.heap.size, 1, none⟩ = some (.slice a n cap) := by rw [hW0]; simp [World.cell?_alloc_new]
      have g1 : W0.cell? ⟨W.heap.size + 1, 1, none⟩ = some (.slice a' n cap') := by rw [hW0]; simp [World.cell?_alloc_new]
      rw [← hW0] at HB0
      have HC := Lib.hid (HI.out.below HB0.out).2
      have HC' := Lib.hid (HI'.out.below HB0.out).2
      have hs1 : W.heap.size < W0.heap.size := by omega
      have hs2 : W.heap.size + 1 < W0.heap.size := by omega
      clear hs0 hW0
      go_loopw [5] (fun i wr => ∃ k : Nat, k ≤ n ∧ i = .int .i64 k ∧ Below W0.heap.size W0 wr ∧ l.take k = l'.take k) (fun i _ => n - (intOf i).toNat)
      case atStart => exact ⟨0, Nat.zero_le _, rfl, Below.refl _ _, rfl⟩
      case round =>
        obtain ⟨k, hk, rfl, hb, hpp⟩ := hrel
        have HP := Lib.hid hpp
        clear hpp
        have g0' := (hb.cell (p := ⟨W.heap.size, 1, none⟩) hs1).trans g0
        have g1' := (hb.cell (p := ⟨W.heap.size + 1, 1, none⟩) hs2).trans g1
        have hbz := hb.size
        have hq1 : W.heap.size < wr.heap.size := by omega
        have hq2 : W.heap.size + 1 < wr.heap.size := by omega
        by_cases hlt : k < n
        · obtain ⟨b, off, ⟨x1, x2⟩, rfl, hbl, hx, hc0, hc1⟩ := HC.out k hlt
          obtain ⟨b', off', ⟨y1, y2⟩, rfl, hbl', hy, hy0, hy1⟩ := HC'.out k hlt
          dsimp only at hc0 hc1 hy0 hy1
          have HX := Lib.hid hx
          have HY := Lib.hid hy
          have d0 := (hb.cell (p := ⟨b, off + k * 2, none⟩) hbl).trans hc0
          have d1 := (hb.cell (p := ⟨b, off + k * 2 + 1, none⟩) hbl).trans hc1
          have t0 := (hb.cell (p := ⟨b', off' + k * 2, none⟩) hbl').trans hy0
          have t1 := (hb.cell (p := ⟨b', off' + k * 2 + 1, none⟩) hbl').trans hy1
          clear hx hy hc0 hc1 hy0 hy1 g0 g1
          by_cases hxx : (((x1, x2) : BarT) = (y1, y2))
          · have HXX := Lib.hid hxx
            have hcmp := fun w => neqBar_t hxx w
            clear hxx
            go_wp2_with fail
            go_quiet (fail)
            go_wp2_with fail
            go_roundw
            case rel => exact ⟨k + 1, by omega, by go_num, by first | exact below_drewN hb _ | exact hb, by rw [take_succ_of HX.out, take_succ_of HY.out, HP.out, HXX.out]⟩
            case measure => simp [intOf]; omega
          · have HXX := Lib.hid hxx
            have hcmp := fun w => neqBar_f hxx w
            clear hxx
            have hll : ¬ l = l' := fun e => HXX.out (Option.some.inj (by rw [← HX.out, ← HY.out, e]))
            have HF := Lib.hid (ret_bool (show (p == p && decide (l = l')) = false by simp [hll]))
            clear hll
            go_wp2_with fail
            go_quiet (fail)
            go_wp2_with fail
            go_ret
            exact ⟨HF.out.symm, HB0.out.trans ((below_drewN hb _).mono (by omega))⟩
        · obtain rfl : k = n := by omega
          have h1 := HP.out
          rw [List.take_of_length_le (by have := HL.out; omega), List.take_of_length_le (by have := HL'.out; omega)] at h1
          have HF := Lib.hid (ret_bool (show (p == p && decide (l = l')) = true by simp [h1]))
          clear h1
          go_wp2_with fail
          go_ret
          exact ⟨HF.out.symm, HB0.out.trans (hb.mono (by omega))⟩

    · have hne : (n != n') = true := by simpa using hnn
      have hne2 : ((n : Int) != (n' : Int)) = true := by simp; omega
      have HF := Lib.hid (ret_bool (show (p == p && decide (l = l')) = false by
        have h1 : ¬ l = l' := fun e => hnn (by rw [← HL.out, ← HL'.out, e])
        simp [h1]))
      go_enter Try.func65, Try.ntmps65
      go_wp2_with fail
      go_ret
      exact ⟨HF.out.symm, HB0.out⟩
  · have hpp : (p == p') = false := by simpa using hp
    have hpp2 : (p != p') = true := by simpa using hp
    have HF := Lib.hid (ret_bool (show (p == p' && decide (l = l')) = false by simp [hpp]))
    go_enter Try.func65, Try.ntmps65
    go_wp2_with fail
    go_ret
    exact ⟨HF.out.symm, HB0.out⟩

set_option maxHeartbeats 2000000 in
theorem slEqPlaces_any (a a' : Option Addr) (n cap n' cap' : Nat) (l l' : List PlaceT) (W : World) (h : PlacesAt W a n l) (h' : PlacesAt W a' n' l') (hn : n ≤ 1099511627776) :
    Calls Try.prog 69 #[.slice a n cap, .slice a' n' cap'] W fun e w' => e = .returned (.bool (decide (l = l'))) ∧ ∃ m, w' = W.drewN m := by
  have hgd := guardPlace
  obtain ⟨hl, hc⟩ := h
  obtain ⟨hl', hc'⟩ := h'
  have HL := Lib.hid hl
  have HL' := Lib.hid hl'
  have HC := Lib.hid hc
  have HC' := Lib.hid hc'
  clear hl hc hl' hc'
  by_cases hnn : n = n'
  · subst hnn
    go_enter Try.func69, Try.ntmps69
    go_wp2
    go_loopw [13] (fun i wr => ∃ k : Nat, k ≤ n ∧ i = .int .i64 k ∧ (∃ m, wr = W.drewN m) ∧ l.take k = l'.take k) (fun i _ => n - (intOf i).toNat)
    case atStart => exact ⟨0, Nat.zero_le _, rfl, ⟨0, rfl⟩, rfl⟩
    case round =>
      obtain ⟨k, hk, rfl, ⟨m, rfl⟩, hp⟩ := hrel
      have HP := Lib.hid hp
      clear hp
      by_cases hlt : k < n
      · obtain ⟨b, off, ⟨x1, x2⟩, rfl, hbl, hx, hc0, hc1⟩ := HC.out k hlt
        obtain ⟨b', off', ⟨y1, y2⟩, rfl, hbl', hx', hd0, hd1⟩ := HC'.out k hlt
        have HX := Lib.hid hx
        have HX' := Lib.hid hx'
        clear hx hx'
        dsimp only at hc0 hc1 hd0 hd1
        by_cases hxx : (((x1, x2) : PlaceT) = (y1, y2))
        · have HXX := Lib.hid hxx
          have hcmp := fun w => neqPlace_t hxx w
          clear hxx
          go_wp2
          go_quiet (fail)
          go_wp2
          go_roundw
          case rel => exact ⟨k + 1, by omega, by go_num, (by first | exact ⟨_, rfl⟩ | exact ⟨_, World.drewN_drewN _ _ _⟩), by rw [take_succ_of HX.out, take_succ_of HX'.out, HP.out, HXX.out]⟩
          case measure => simp [intOf]; omega
        · have HXX := Lib.hid hxx
          have hcmp := fun w => neqPlace_f hxx w
          clear hxx
          go_wp2
          go_quiet (fail)
          go_wp2
          go_ret
          refine ⟨?_, by first | exact ⟨_, rfl⟩ | exact ⟨_, World.drewN_drewN _ _ _⟩⟩
          rw [show decide (l = l') = false from decide_eq_false fun e => HXX.out (Option.some.inj (by rw [← HX.out, ← HX'.out, e]))]
          try rfl
      · obtain rfl : k = n := by omega
        go_wp2
        go_ret
        have h1 := HP.out
        rw [List.take_of_length_le (by have := HL.out; omega), List.take_of_length_le (by have := HL'.out; omega)] at h1
        exact ⟨by simp [h1], m, rfl⟩
  · have hne : (n != n') = true := by simpa using hnn
    have hne2 : ((n : Int) != (n' : Int)) = true := by simp; omega
    go_enter Try.func69, Try.ntmps69
    go_wp2
    go_ret
    refine ⟨?_, 0, rfl⟩
    rw [show decide (l = l') = false from decide_eq_false fun e => hnn (by rw [← HL.out, ← HL'.out, e])]
    try rfl

def eqFwB (f f' : FwT) : Bool := (f.1 == f'.1 && decide (f.2.1 = f'.2.1)) && decide (f.2.2 = f'.2.2)
set_option maxHeartbeats 4000000 in
theorem implEqF_any (W : World) (p p' : Int) (a a' : Option Addr) (cap cap' : Nat) (l l' : List BarT) (c c' : Option Addr) (capc capc' : Nat) (q q' : List PlaceT) (h : BarsAt W a l.length l) (h' : BarsAt W a' l'.length l') (hq : PlacesAt W c q.length q) (hq' : PlacesAt W c' q'.length q') (hn : l.length ≤ 1099511627776) (hnq : q.length ≤ 1099511627776) :
    Calls Try.prog 33 #[.agg #[.int .i64 p, .slice a l.length cap, .slice c q.length capc], .agg #[.int .i64 p', .slice a' l'.length cap', .slice c' q'.length capc']] W fun e w' => e = .returned (.bool (eqFwB (p, l, q) (p', l', q'))) ∧ Below W.heap.size W w' := by
  have HI := Lib.hid h
  have HI' := Lib.hid h'
  have HJ := Lib.hid hq
  have HJ' := Lib.hid hq'
  clear h h' hq hq'
  have HB0 : Hid (Below W.heap.size W ((W.alloc (.cells #[.int .i64 p, .slice a l.length cap, .slice c q.length capc] 47)).alloc (.cells #[.int .i64 p', .slice a' l'.length cap', .slice c' q'.length capc'] 47))) := ((Below.refl _ W).alloc (Nat.le_refl _) _).alloc (by simp) _
  cases hg : (p == p' && decide (l = l'))
  · have HF := Lib.hid (ret_bool (show eqFwB (p, l, q) (p', l', q') = false by simp only [eqFwB, hg, Bool.false_and]))
    go_enter Try.func33, Try.ntmps33
    go_wp2_with fail
    refine (implEqG_any _ _ _ _ _ _ _ _ _ (HI.out.below HB0.out) (HI'.out.below HB0.out) hn).mono ?_
    rintro e w1 ⟨rfl, b1⟩
    rw [hg]
    have HB1 := Lib.hid (HB0.out.trans (b1.mono (by simp; omega)))
    clear b1 hg
    go_wp2_with fail
    go_ret
    exact ⟨HF.out.symm, HB1.out⟩
  · have HF := Lib.hid (ret_bool (show eqFwB (p, l, q) (p', l', q') = decide (q = q') by simp only [eqFwB, hg, Bool.true_and]))
    go_enter Try.func33, Try.ntmps33
    go_wp2_with fail
    refine (implEqG_any _ _ _ _ _ _ _ _ _ (HI.out.below HB0.out) (HI'.out.below HB0.out) hn).mono ?_
    rintro e w1 ⟨rfl, b1⟩
    rw [hg]
    obtain ⟨hc, hf⟩ := bcell b1
    have hz : W.heap.size + 1 < w1.heap.size := by have := b1.size; simp at this; omega
    have HB1 : Hid (Below W.heap.size W w1) := HB0.out.trans (b1.mono (by simp; omega))
    clear b1 hg
    go_wp2_with fail
    refine (slEqPlaces_any _ _ _ _ _ _ _ _ _ (HJ.out.below HB1.out) (HJ'.out.below HB1.out) hnq).mono ?_
    rintro e w2 ⟨rfl, m, rfl⟩
    clear hc hf
    go_wp2_with fail
    go_ret
    exact ⟨HF.out.symm, below_drewN HB1.out _⟩

set_option maxHeartbeats 4000000 in
theorem specEqF_any (W : World) (p p' : Int) (a a' : Option Addr) (cap cap' : Nat) (m m' : List BarT) (c c' : Option Addr) (capc capc' : Nat) (l l' : List PlaceT) (h : BarsAt W a m.length m) (h' : BarsAt W a' m'.length m') (hq : PlacesAt W c l.length l) (hq' : PlacesAt W c' l'.length l') (hn : m.length ≤ 1099511627776) (hnq : l.length ≤ 1099511627776) :
    Calls Try.prog 31 #[.agg #[.int .i64 p, .slice a m.length cap, .slice c l.length capc], .agg #[.int .i64 p', .slice a' m'.length cap', .slice c' l'.length capc']] W fun e w' => e = .returned (.bool (eqFwB (p, m, l) (p', m', l'))) ∧ Below W.heap.size W w' := by
  have hgd := guardPlace
  have HI := Lib.hid h
  have HI' := Lib.hid h'
  have HJ := Lib.hid hq
  have HJ' := Lib.hid hq'
  clear h h' hq hq'
  generalize hL : l.length = n at *
  generalize hL' : l'.length = n' at *
  have HL := Lib.hid hL
  have HL' := Lib.hid hL'
  clear hL hL'
  have HB0 : Hid (Below W.heap.size W ((W.alloc (.cells #[.int .i64 p, .slice a m.length cap, .slice c n capc] 47)).alloc (.cells #[.int .i64 p', .slice a' m'.length cap', .slice c' n' capc'] 47))) := ((Below.refl _ W).alloc (Nat.le_refl _) _).alloc (by simp) _
  cases hg : (p == p' && decide (m = m'))
  · have HF := Lib.hid (ret_bool (show eqFwB (p, m, l) (p', m', l') = false by simp only [eqFwB, hg, Bool.false_and]))
    go_enter Try.func31, Try.ntmps31
    go_wp2_with fail
    refine (specEqG_any _ _ _ _ _ _ _ _ _ (HI.out.below HB0.out) (HI'.out.below HB0.out) hn).mono ?_
    rintro e w1 ⟨rfl, b1⟩
    rw [hg]
    have HB1 := Lib.hid (HB0.out.trans (b1.mono (by simp; omega)))
    clear b1 hg
    go_wp2_with fail
    go_ret
    exact ⟨HF.out.symm, HB1.out⟩
  · have HFF := Lib.hid (show eqFwB (p, m, l) (p', m', l') = decide (l = l') by simp only [eqFwB, hg, Bool.true_and])
    by_cases hnn : n = n'
    · subst hnn
      go_enter Try.func31, Try.ntmps31
      go_wp2_with fail
      refine (specEqG_any _ _ _ _ _ _ _ _ _ (HI.out.below HB0.out) (HI'.out.below HB0.out) hn).mono ?_
      rintro e W0 ⟨rfl, b1⟩
      rw [hg]
      have hs0 : W.heap.size + 1 < W0.heap.size := by have := b1.size; simp at this; omega
      have g0 : W0.cell? ⟨W.heap.size, 2, none⟩ = some (.slice c n capc) := by rw [(bcell b1).1 _ _ (by simp; omega)]; simp [World.cell?_alloc_new]
      have g1 : W0.cell? ⟨W.heap.size + 1, 2, none⟩ = some (.slice c' n capc') := by rw [(bcell b1).1 _ _ (by simp)]; simp [World.cell?_alloc_new]
      have HB1 : Hid (Below W.heap.size W W0) := HB0.out.trans (b1.mono (by simp; omega))
      clear HB0
      have HB0 := HB1
      have HC := Lib.hid (HJ.out.below HB0.out).2
      have HC' := Lib.hid (HJ'.out.below HB0.out).2
      have hs1 : W.heap.size < W0.heap.size := by omega
      have hs2 : W.heap.size + 1 < W0.heap.size := by omega
      clear hs0 b1 hg HB1
      go_wp2_with fail
      go_loopw [5] (fun i wr => ∃ k : Nat, k ≤ n ∧ i = .int .i64 k ∧ Below W0.heap.size W0 wr ∧ l.take k = l'.take k) (fun i _ => n - (intOf i).toNat)
      case atStart => exact ⟨0, Nat.zero_le _, rfl, Below.refl _ _, rfl⟩
      case round =>
        obtain ⟨k, hk, rfl, hb, hpp⟩ := hrel
        have HP := Lib.hid hpp
        clear hpp
        have g0' := (hb.cell (p := ⟨W.heap.size, 2, none⟩) hs1).trans g0
        have g1' := (hb.cell (p := ⟨W.heap.size + 1, 2, none⟩) hs2).trans g1
        have hbz := hb.size
        have hq1 : W.heap.size < wr.heap.size := by omega
        have hq2 : W.heap.size + 1 < wr.heap.size := by omega
        by_cases hlt : k < n
        · obtain ⟨b, off, ⟨x1, x2⟩, rfl, hbl, hx, hc0, hc1⟩ := HC.out k hlt
          obtain ⟨b', off', ⟨y1, y2⟩, rfl, hbl', hy, hy0, hy1⟩ := HC'.out k hlt
          dsimp only at hc0 hc1 hy0 hy1
          have HX := Lib.hid hx
          have HY := Lib.hid hy
          have d0 := (hb.cell (p := ⟨b, off + k * 2, none⟩) hbl).trans hc0
          have d1 := (hb.cell (p := ⟨b, off + k * 2 + 1, none⟩) hbl).trans hc1
          have t0 := (hb.cell (p := ⟨b', off' + k * 2, none⟩) hbl').trans hy0
          have t1 := (hb.cell (p := ⟨b', off' + k * 2 + 1, none⟩) hbl').trans hy1
          clear hx hy hc0 hc1 hy0 hy1 g0 g1
          by_cases hxx : (((x1, x2) : PlaceT) = (y1, y2))
          · have HXX := Lib.hid hxx
            have hcmp := fun w => neqPlace_t hxx w
            clear hxx
            go_wp2_with fail
            go_quiet (fail)
            go_wp2_with fail
            go_roundw
            case rel => exact ⟨k + 1, by omega, by go_num, by first | exact below_drewN hb _ | exact hb, by rw [take_succ_of HX.out, take_succ_of HY.out, HP.out, HXX.out]⟩
            case measure => simp [intOf]; omega
          · have HXX := Lib.hid hxx
            have hcmp := fun w => neqPlace_f hxx w
            clear hxx
            have hll : ¬ l = l' := fun e => HXX.out (Option.some.inj (by rw [← HX.out, ← HY.out, e]))
            have HF := Lib.hid (ret_bool (show eqFwB (p, m, l) (p', m', l') = false by rw [HFF.out]; simp [hll]))
            clear hll
            go_wp2_with fail
            go_quiet (fail)
            go_wp2_with fail
            go_ret
            exact ⟨HF.out.symm, HB0.out.trans ((below_drewN hb _).mono (by omega))⟩
        · obtain rfl : k = n := by omega
          have h1 := HP.out
          rw [List.take_of_length_le (by have := HL.out; omega), List.take_of_length_le (by have := HL'.out; omega)] at h1
          have HF := Lib.hid (ret_bool (show eqFwB (p, m, l) (p', m', l') = true by rw [HFF.out]; simp [h1]))
          clear h1
          go_wp2_with fail
          go_ret
          exact ⟨HF.out.symm, HB0.out.trans (hb.mono (by omega))⟩

    · have hne : (n != n') = true := by simpa using hnn
      have hne2 : ((n : Int) != (n' : Int)) = true := by simp; omega
      have HF := Lib.hid (ret_bool (show eqFwB (p, m, l) (p', m', l') = false by
        have h1 : ¬ l = l' := fun e => hnn (by rw [← HL.out, ← HL'.out, e])
        rw [HFF.out]
        simp [h1]))
      go_enter Try.func31, Try.ntmps31
      go_wp2_with fail
      refine (specEqG_any _ _ _ _ _ _ _ _ _ (HI.out.below HB0.out) (HI'.out.below HB0.out) hn).mono ?_
      rintro e w1 ⟨rfl, b1⟩
      rw [hg]
      obtain ⟨hc, hf⟩ := bcell b1
      have hz : W.heap.size + 1 < w1.heap.size := by have := b1.size; simp at this; omega
      have HB1 : Hid (Below W.heap.size W w1) := HB0.out.trans (b1.mono (by simp; omega))
      clear b1 hg
      go_wp2_with fail
      go_ret
      exact ⟨HF.out.symm, HB1.out⟩

theorem spec_EqualFrameworks (W : World) (v : Value) (f : FwT) (h : IsFw W v f) (v' : Value) (f' : FwT) (h' : IsFw W v' f') (hn : szFw f ≤ 1048576) (hn' : szFw f' ≤ 1048576) : Calls Try.prog 31 #[v, v'] W fun e w' => e = .returned (.bool (eqFwB f f')) ∧ Below W.heap.size W w' := by
  obtain ⟨p, l, q⟩ := f
  obtain ⟨p', l', q'⟩ := f'
  obtain ⟨a, cap, c, capc, rfl, hi, hj⟩ := h
  obtain ⟨a', cap', c', capc', rfl, hi', hj'⟩ := h'
  have h1 : l.length + q.length ≤ 1048576 := hn
  exact specEqF_any _ _ _ _ _ _ _ _ _ _ _ _ _ _ _ hi hi' hj hj' (show l.length ≤ _ by omega) (show q.length ≤ _ by omega)
theorem impl_EqualFrameworks (W : World) (v : Value) (f : FwT) (h : IsFw W v f) (v' : Value) (f' : FwT) (h' : IsFw W v' f') (hn : szFw f ≤ 1048576) (hn' : szFw f' ≤ 1048576) : Calls Try.prog 33 #[v, v'] W fun e w' => e = .returned (.bool (eqFwB f f')) ∧ Below W.heap.size W w' := by
  obtain ⟨p, l, q⟩ := f
  obtain ⟨p', l', q'⟩ := f'
  obtain ⟨a, cap, c, capc, rfl, hi, hj⟩ := h
  obtain ⟨a', cap', c', capc', rfl, hi', hj'⟩ := h'
  have h1 : l.length + q.length ≤ 1048576 := hn
  exact implEqF_any _ _ _ _ _ _ _ _ _ _ _ _ _ _ _ hi hi' hj hj' (show l.length ≤ _ by omega) (show q.length ≤ _ by omega)
end Go.Proofs.Ytjaaccdedffbcaa
