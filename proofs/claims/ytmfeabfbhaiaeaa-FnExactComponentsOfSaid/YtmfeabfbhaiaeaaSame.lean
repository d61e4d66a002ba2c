/- slices.Equal on ints, and the reference's l6Same. No condition but sizes. -/
import Derived.Test.YtmfeabfbhaiaeaaInts
namespace Go.Proofs.Ytmfeabfbhaiaeaa
open Go.RowKit
set_option maxRecDepth 100000
set_option linter.unusedVariables false
set_option linter.unusedSimpArgs false

set_option maxHeartbeats 1000000 in
theorem l6Same_any (a a' : Option Addr) (n cap n' cap' : Nat) (l l' : List Int) (W : World) (h : IntsAt W a n l) (h' : IntsAt W a' n' l') (hn : n ≤ 17592186044416) :
    Calls Try.prog 46 #[.slice a n cap, .slice a' n' cap'] W fun e w' => e = .returned (.bool (decide (l = l'))) ∧ ∃ m, w' = W.drewN m := by
  obtain ⟨hl, hc⟩ := h
  obtain ⟨hl', hc'⟩ := h'
  have HL := Lib.hid hl
  have HL' := Lib.hid hl'
  have HC := Lib.hid hc
  have HC' := Lib.hid hc'
  clear hl hc hl' hc'
  by_cases hnn : n = n'
  · subst hnn
    go_enter Try.func46, Try.ntmps46
    go_wp2
    go_loopw [5] (fun i wr => ∃ k : Nat, k ≤ n ∧ i = .int .i64 k ∧ (∃ m, wr = W.drewN m) ∧ l.take k = l'.take k) (fun i _ => n - (intOf i).toNat)
    case atStart => exact ⟨0, Nat.zero_le _, rfl, ⟨0, rfl⟩, rfl⟩
    case round =>
      obtain ⟨k, hk, rfl, ⟨m, rfl⟩, hp⟩ := hrel
      have HP := Lib.hid hp
      clear hp
      by_cases hlt : k < n
      · obtain ⟨b, off, x, rfl, hbl, hx, hcell⟩ := HC.out k hlt
        obtain ⟨b', off', x', rfl, hbl', hx', hcell'⟩ := HC'.out k hlt
        have HX := Lib.hid hx
        have HX' := Lib.hid hx'
        clear hx hx'
        by_cases hxx : x = x'
        · subst hxx
          go_wp2
          go_quiet (fail)
          go_wp2
          go_roundw
          case rel => exact ⟨k + 1, by omega, by go_num, ⟨_, rfl⟩, by rw [take_succ_of HX.out, take_succ_of HX'.out, HP.out]⟩
          case measure => simp [intOf]; omega
        · have hne : (x != x') = true := by simpa using hxx
          go_wp2
          go_quiet (fail)
          go_wp2
          go_ret
          refine ⟨?_, by first | exact ⟨_, rfl⟩ | exact ⟨_, World.drewN_drewN _ _ _⟩⟩
          rw [show decide (l = l') = false from decide_eq_false fun e => hxx (Option.some.inj (by rw [← HX.out, ← HX'.out, e]))]
          try rfl
      · obtain rfl : k = n := by omega
        go_wp2
        go_ret
        have h1 := HP.out
        rw [List.take_of_length_le (by have := HL.out; omega), List.take_of_length_le (by have := HL'.out; omega)] at h1
        exact ⟨by simp [h1], m, rfl⟩
  · have hne : (n != n') = true := by simpa using hnn
    have hne2 : ((n : Int) != (n' : Int)) = true := by simp; omega
    go_enter Try.func46, Try.ntmps46
    go_wp2
    go_ret
    refine ⟨?_, 0, rfl⟩
    rw [show decide (l = l') = false from decide_eq_false fun e => hnn (by rw [← HL.out, ← HL'.out, e])]
    try rfl

theorem l6Same_is (W : World) (v v' : Value) (l l' : List Int) (h : IsInts W v l) (h' : IsInts W v' l') (hn : l.length ≤ 17592186044416) :
    Calls Try.prog 46 #[v, v'] W fun e w' => e = .returned (.bool (decide (l = l'))) ∧ Below W.heap.size W w' := by
  obtain ⟨a, cap, rfl, i⟩ := h
  obtain ⟨a', cap', rfl, i'⟩ := h'
  exact (l6Same_any _ _ _ _ _ _ _ _ _ i i' hn).mono fun _ _ ⟨he, m, hw⟩ => ⟨he, by rw [hw]; exact below_drewN (Below.refl _ _) _⟩
set_option maxHeartbeats 1000000 in
theorem slEqInts_any (a a' : Option Addr) (n cap n' cap' : Nat) (l l' : List Int) (W : World) (h : IntsAt W a n l) (h' : IntsAt W a' n' l') (hn : n ≤ 17592186044416) :
    Calls Try.prog 50 #[.slice a n cap, .slice a' n' cap'] W fun e w' => e = .returned (.bool (decide (l = l'))) ∧ ∃ m, w' = W.drewN m := by
  obtain ⟨hl, hc⟩ := h
  obtain ⟨hl', hc'⟩ := h'
  have HL := Lib.hid hl
  have HL' := Lib.hid hl'
  have HC := Lib.hid hc
  have HC' := Lib.hid hc'
  clear hl hc hl' hc'
  by_cases hnn : n = n'
  · subst hnn
    go_enter Try.func50, Try.ntmps50
    go_wp2
    go_loopw [13] (fun i wr => ∃ k : Nat, k ≤ n ∧ i = .int .i64 k ∧ (∃ m, wr = W.drewN m) ∧ l.take k = l'.take k) (fun i _ => n - (intOf i).toNat)
    case atStart => exact ⟨0, Nat.zero_le _, rfl, ⟨0, rfl⟩, rfl⟩
    case round =>
      obtain ⟨k, hk, rfl, ⟨m, rfl⟩, hp⟩ := hrel
      have HP := Lib.hid hp
      clear hp
      by_cases hlt : k < n
      · obtain ⟨b, off, x, rfl, hbl, hx, hcell⟩ := HC.out k hlt
        obtain ⟨b', off', x', rfl, hbl', hx', hcell'⟩ := HC'.out k hlt
        have HX := Lib.hid hx
        have HX' := Lib.hid hx'
        clear hx hx'
        by_cases hxx : x = x'
        · subst hxx
          go_wp2
          go_quiet (fail)
          go_wp2
          go_roundw
          case rel => exact ⟨k + 1, by omega, by go_num, ⟨_, rfl⟩, by rw [take_succ_of HX.out, take_succ_of HX'.out, HP.out]⟩
          case measure => simp [intOf]; omega
        · have hne : (x != x') = true := by simpa using hxx
          go_wp2
          go_quiet (fail)
          go_wp2
          go_ret
          refine ⟨?_, by first | exact ⟨_, rfl⟩ | exact ⟨_, World.drewN_drewN _ _ _⟩⟩
          rw [show decide (l = l') = false from decide_eq_false fun e => hxx (Option.some.inj (by rw [← HX.out, ← HX'.out, e]))]
          try rfl
      · obtain rfl : k = n := by omega
        go_wp2
        go_ret
        have h1 := HP.out
        rw [List.take_of_length_le (by have := HL.out; omega), List.take_of_length_le (by have := HL'.out; omega)] at h1
        exact ⟨by simp [h1], m, rfl⟩
  · have hne : (n != n') = true := by simpa using hnn
    have hne2 : ((n : Int) != (n' : Int)) = true := by simp; omega
    go_enter Try.func50, Try.ntmps50
    go_wp2
    go_ret
    refine ⟨?_, 0, rfl⟩
    rw [show decide (l = l') = false from decide_eq_false fun e => hnn (by rw [← HL.out, ← HL'.out, e])]
    try rfl

theorem slEqInts_is (W : World) (v v' : Value) (l l' : List Int) (h : IsInts W v l) (h' : IsInts W v' l') (hn : l.length ≤ 17592186044416) :
    Calls Try.prog 50 #[v, v'] W fun e w' => e = .returned (.bool (decide (l = l'))) ∧ Below W.heap.size W w' := by
  obtain ⟨a, cap, rfl, i⟩ := h
  obtain ⟨a', cap', rfl, i'⟩ := h'
  exact (slEqInts_any _ _ _ _ _ _ _ _ _ i i' hn).mono fun _ _ ⟨he, m, hw⟩ => ⟨he, by rw [hw]; exact below_drewN (Below.refl _ _) _⟩
end Go.Proofs.Ytmfeabfbhaiaeaa
