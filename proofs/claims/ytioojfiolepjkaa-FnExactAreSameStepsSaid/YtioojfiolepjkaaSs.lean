/- AreSameSteps of the program and of the reference (written by samegen.py). -/
import Derived.Test.YtioojfiolepjkaaSteps
namespace Go.Proofs.Ytioojfiolepjkaa
open Go.RowKit
set_option linter.unusedVariables false
set_option linter.unusedSimpArgs false

set_option maxHeartbeats 2000000 in
theorem specSs_any (a a' : Option Addr) (n cap n' cap' : Nat) (l l' : List StepT) (W : World) (h : StepsAt W a n l) (h' : StepsAt W a' n' l') (hn : n ≤ 1099511627776) :
    Calls Try.prog 25 #[.slice a n cap, .slice a' n' cap'] W fun e w' => e = .returned (.bool (decide (l = l'))) ∧ ∃ m, w' = W.drewN m := by
  have hgd := guardStep
  obtain ⟨hl, hc⟩ := h
  obtain ⟨hl', hc'⟩ := h'
  have HL := Lib.hid hl
  have HL' := Lib.hid hl'
  have HC := Lib.hid hc
  have HC' := Lib.hid hc'
  clear hl hc hl' hc'
  by_cases hnn : n = n'
  · subst hnn
    go_enter Try.func25, Try.ntmps25
    go_wp2
    go_loopw [5] (fun i wr => ∃ k : Nat, k ≤ n ∧ i = .int .i64 k ∧ (∃ m, wr = W.drewN m) ∧ l.take k = l'.take k) (fun i _ => n - (intOf i).toNat)
    case atStart => exact ⟨0, Nat.zero_le _, rfl, ⟨0, rfl⟩, rfl⟩
    case round =>
      obtain ⟨k, hk, rfl, ⟨m, rfl⟩, hp⟩ := hrel
      have HP := Lib.hid hp
      clear hp
      by_cases hlt : k < n
      · obtain ⟨b, off, ⟨x1, x2, x3, x4, x5⟩, rfl, hbl, hx, hc0, hc1, hc2, hc3, hc4⟩ := HC.out k hlt
        obtain ⟨b', off', ⟨y1, y2, y3, y4, y5⟩, rfl, hbl', hx', hd0, hd1, hd2, hd3, hd4⟩ := HC'.out k hlt
        have HX := Lib.hid hx
        have HX' := Lib.hid hx'
        clear hx hx'
        dsimp only at hc0 hc1 hc2 hc3 hc4 hd0 hd1 hd2 hd3 hd4
        by_cases hxx : (((x1, x2, x3, x4, x5) : StepT) = (y1, y2, y3, y4, y5))
        · have HXX := Lib.hid hxx
          have hcmp := fun w => neqStep_t hxx w
          clear hxx
          go_wp2
          go_quiet (fail)
          go_wp2
          go_roundw
          case rel => exact ⟨k + 1, by omega, by go_num, (by first | exact ⟨_, rfl⟩ | exact ⟨_, World.drewN_drewN _ _ _⟩), by rw [take_succ_of HX.out, take_succ_of HX'.out, HP.out, HXX.out]⟩
          case measure => simp [intOf]; omega
        · have HXX := Lib.hid hxx
          have hcmp := fun w => neqStep_f hxx w
          clear hxx
          go_wp2
          go_quiet (fail)
          go_wp2
          go_ret
          refine ⟨?_, by first | exact ⟨_, rfl⟩ | exact ⟨_, World.drewN_drewN _ _ _⟩⟩
          rw [show decide (l = l') = false from decide_eq_false fun e => HXX.out (Option.some.inj (by rw [← HX.out, ← HX'.out, e]))]
          try rfl
      · obtain rfl : k = n := by omega
        go_wp2
        go_ret
        have h1 := HP.out
        rw [List.take_of_length_le (by have := HL.out; omega), List.take_of_length_le (by have := HL'.out; omega)] at h1
        exact ⟨by simp [h1], m, rfl⟩
  · have hne : (n != n') = true := by simpa using hnn
    have hne2 : ((n : Int) != (n' : Int)) = true := by simp; omega
    go_enter Try.func25, Try.ntmps25
    go_wp2
    go_ret
    refine ⟨?_, 0, rfl⟩
    rw [show decide (l = l') = false from decide_eq_false fun e => hnn (by rw [← HL.out, ← HL'.out, e])]
    try rfl
set_option maxHeartbeats 2000000 in
theorem slEqSteps_any (a a' : Option Addr) (n cap n' cap' : Nat) (l l' : List StepT) (W : World) (h : StepsAt W a n l) (h' : StepsAt W a' n' l') (hn : n ≤ 1099511627776) :
    Calls Try.prog 38 #[.slice a n cap, .slice a' n' cap'] W fun e w' => e = .returned (.bool (decide (l = l'))) ∧ ∃ m, w' = W.drewN m := by
  have hgd := guardStep
  obtain ⟨hl, hc⟩ := h
  obtain ⟨hl', hc'⟩ := h'
  have HL := Lib.hid hl
  have HL' := Lib.hid hl'
  have HC := Lib.hid hc
  have HC' := Lib.hid hc'
  clear hl hc hl' hc'
  by_cases hnn : n = n'
  · subst hnn
    go_enter Try.func38, Try.ntmps38
    go_wp2
    go_loopw [13] (fun i wr => ∃ k : Nat, k ≤ n ∧ i = .int .i64 k ∧ (∃ m, wr = W.drewN m) ∧ l.take k = l'.take k) (fun i _ => n - (intOf i).toNat)
    case atStart => exact ⟨0, Nat.zero_le _, rfl, ⟨0, rfl⟩, rfl⟩
    case round =>
      obtain ⟨k, hk, rfl, ⟨m, rfl⟩, hp⟩ := hrel
      have HP := Lib.hid hp
      clear hp
      by_cases hlt : k < n
      · obtain ⟨b, off, ⟨x1, x2, x3, x4, x5⟩, rfl, hbl, hx, hc0, hc1, hc2, hc3, hc4⟩ := HC.out k hlt
        obtain ⟨b', off', ⟨y1, y2, y3, y4, y5⟩, rfl, hbl', hx', hd0, hd1, hd2, hd3, hd4⟩ := HC'.out k hlt
        have HX := Lib.hid hx
        have HX' := Lib.hid hx'
        clear hx hx'
        dsimp only at hc0 hc1 hc2 hc3 hc4 hd0 hd1 hd2 hd3 hd4
        by_cases hxx : (((x1, x2, x3, x4, x5) : StepT) = (y1, y2, y3, y4, y5))
        · have HXX := Lib.hid hxx
          have hcmp := fun w => neqStep_t hxx w
          clear hxx
          go_wp2
          go_quiet (fail)
          go_wp2
          go_roundw
          case rel => exact ⟨k + 1, by omega, by go_num, (by first | exact ⟨_, rfl⟩ | exact ⟨_, World.drewN_drewN _ _ _⟩), by rw [take_succ_of HX.out, take_succ_of HX'.out, HP.out, HXX.out]⟩
          case measure => simp [intOf]; omega
        · have HXX := Lib.hid hxx
          have hcmp := fun w => neqStep_f hxx w
          clear hxx
          go_wp2
          go_quiet (fail)
          go_wp2
          go_ret
          refine ⟨?_, by first | exact ⟨_, rfl⟩ | exact ⟨_, World.drewN_drewN _ _ _⟩⟩
          rw [show decide (l = l') = false from decide_eq_false fun e => HXX.out (Option.some.inj (by rw [← HX.out, ← HX'.out, e]))]
          try rfl
      · obtain rfl : k = n := by omega
        go_wp2
        go_ret
        have h1 := HP.out
        rw [List.take_of_length_le (by have := HL.out; omega), List.take_of_length_le (by have := HL'.out; omega)] at h1
        exact ⟨by simp [h1], m, rfl⟩
  · have hne : (n != n') = true := by simpa using hnn
    have hne2 : ((n : Int) != (n' : Int)) = true := by simp; omega
    go_enter Try.func38, Try.ntmps38
    go_wp2
    go_ret
    refine ⟨?_, 0, rfl⟩
    rw [show decide (l = l') = false from decide_eq_false fun e => hnn (by rw [← HL.out, ← HL'.out, e])]
    try rfl

theorem slEqSteps_is (W : World) (v v' : Value) (l l' : List StepT) (h : IsSteps W v l) (h' : IsSteps W v' l') (hn : l.length ≤ 1099511627776) : Calls Try.prog 38 #[v, v'] W fun e w' => e = .returned (.bool (decide (l = l'))) ∧ ∃ m, w' = W.drewN m := by
  obtain ⟨a, cap, rfl, hi⟩ := h
  obtain ⟨a', cap', rfl, hi'⟩ := h'
  exact slEqSteps_any _ _ _ _ _ _ _ _ _ hi hi' hn

theorem spec_AreSameSteps (W : World) (v : Value) (l : List StepT) (h : IsSteps W v l) (v' : Value) (l' : List StepT) (h' : IsSteps W v' l') (hn : l.length ≤ 1048576) (hn' : l'.length ≤ 1048576) : Calls Try.prog 25 #[v, v'] W fun e w' => e = .returned (.bool (decide (l = l'))) ∧ Below W.heap.size W w' := by
  obtain ⟨a, cap, rfl, hi⟩ := h
  obtain ⟨a', cap', rfl, hi'⟩ := h'
  exact (specSs_any _ _ _ _ _ _ _ _ _ hi hi' (by omega)).mono fun _ _ ⟨he, m, hw⟩ => ⟨he, by rw [hw]; exact below_drewN (Below.refl _ _) _⟩
set_option maxHeartbeats 1000000 in
theorem impl_AreSameSteps (W : World) (v : Value) (l : List StepT) (h : IsSteps W v l) (v' : Value) (l' : List StepT) (h' : IsSteps W v' l') (hn : l.length ≤ 1048576) (hn' : l'.length ≤ 1048576) : Calls Try.prog 26 #[v, v'] W fun e w' => e = .returned (.bool (decide (l = l'))) ∧ Below W.heap.size W w' := by
  have H := Lib.hid h
  have H' := Lib.hid h'
  clear h h'
  go_enter Try.func26, Try.ntmps26
  go_wp2_with fail
  refine (slEqSteps_is _ _ _ _ _ H.out H'.out (by omega)).mono ?_
  rintro e w' ⟨rfl, m, rfl⟩
  go_wp2_with fail
  go_ret
  exact ⟨rfl, below_drewN (Below.refl _ _) _⟩
end Go.Proofs.Ytioojfiolepjkaa
