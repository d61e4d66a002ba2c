/- CountThrees of the program and of the reference: how many steps are of kind 2. -/
import Derived.Test.YtioojfiolepjkaaSteps
namespace Go.Proofs.Ytioojfiolepjkaa
open Go.RowKit
set_option linter.unusedVariables false
set_option linter.unusedSimpArgs false

/-- how many of the first k steps are of kind 2 -/
def threes (l : List StepT) : Nat → Int
  | 0 => 0
  | k + 1 => match l[k]? with
    | some x => if x.1 = 2 then threes l k + 1 else threes l k
    | none => threes l k
theorem threes_bd (l : List StepT) (k : Nat) : 0 ≤ threes l k ∧ threes l k ≤ k := by
  induction k with
  | zero => simp [threes]
  | succ k ih =>
    simp only [threes]
    split
    · split <;> omega
    · omega

set_option maxHeartbeats 1000000 in
theorem specCt_any (a : Option Addr) (n cap : Nat) (l : List StepT) (W : World) (h : StepsAt W a n l) (hn : n ≤ 1099511627776) :
    Calls Try.prog 21 #[.slice a n cap] W fun e w' => e = .returned (.int .i64 (threes l n)) ∧ Below W.heap.size W w' := by
  obtain ⟨hl, hc⟩ := h
  have HC := Lib.hid hc
  clear hl hc
  go_enter Try.func21, Try.ntmps21
  go_wp2
  go_loop [3, 4] (fun c i => ∃ k : Nat, k ≤ n ∧ i = .int .i64 k ∧ c = .int .i64 (threes l k)) (fun _ i => n - (intOf i).toNat)
  case atStart => exact ⟨0, Nat.zero_le _, rfl, rfl⟩
  case round =>
    obtain ⟨k, hk, rfl, rfl⟩ := hrel
    have hb := threes_bd l k
    by_cases hlt : k < n
    · obtain ⟨b, off, ⟨x1, x2, x3, x4, x5⟩, rfl, hbl, hx, hc0, hc1, hc2, hc3, hc4⟩ := HC.out k hlt
      have HX := Lib.hid hx
      clear hx
      dsimp only at hc0 hc1 hc2 hc3 hc4
      by_cases h2 : x1 = 2
      · subst h2
        go_wp2
        go_round
        case rel => exact ⟨k + 1, by omega, by go_num, by simp only [threes, HX.out]; simp⟩
        case measure => simp [intOf]; omega
      · have hne : (x1 == 2) = false := by simpa using h2
        go_wp2
        go_round
        case rel => exact ⟨k + 1, by omega, by go_num, by simp only [threes, HX.out]; simp [h2]⟩
        case measure => simp [intOf]; omega
    · obtain rfl : k = n := by omega
      go_wp2
      go_ret
      exact ⟨rfl, Below.refl _ _⟩

set_option maxHeartbeats 1000000 in
theorem implCt_any (a : Option Addr) (n cap : Nat) (l : List StepT) (W : World) (h : StepsAt W a n l) (hn : n ≤ 1099511627776) :
    Calls Try.prog 23 #[.slice a n cap] W fun e w' => e = .returned (.int .i64 (threes l n)) ∧ Below W.heap.size W w' := by
  obtain ⟨hl, hc⟩ := h
  have HC := Lib.hid hc
  clear hl hc
  go_enter Try.func23, Try.ntmps23
  go_wp2
  go_loopw [3, 8] (fun c i wr => ∃ k : Nat, k ≤ n ∧ i = .int .i64 k ∧ c = .int .i64 (threes l k) ∧ Below W.heap.size W wr) (fun _ i _ => n - (intOf i).toNat)
  case atStart => exact ⟨0, Nat.zero_le _, rfl, rfl, Below.refl _ _⟩
  case round =>
    obtain ⟨k, hk, rfl, rfl, hb⟩ := hrel
    have hbd := threes_bd l k
    by_cases hlt : k < n
    · obtain ⟨b, off, ⟨x1, x2, x3, x4, x5⟩, rfl, hbl, hx, hc0, hc1, hc2, hc3, hc4⟩ := HC.out k hlt
      have HX := Lib.hid hx
      clear hx
      dsimp only at hc0 hc1 hc2 hc3 hc4
      have d0 := (hb.cell (p := ⟨b, off + k * 5, none⟩) hbl).trans hc0
      have d1 := (hb.cell (p := ⟨b, off + k * 5 + 1, none⟩) hbl).trans hc1
      have d2 := (hb.cell (p := ⟨b, off + k * 5 + 2, none⟩) hbl).trans hc2
      have d3 := (hb.cell (p := ⟨b, off + k * 5 + 3, none⟩) hbl).trans hc3
      have d4 := (hb.cell (p := ⟨b, off + k * 5 + 4, none⟩) hbl).trans hc4
      clear hc0 hc1 hc2 hc3 hc4
      by_cases h2 : x1 = 2
      · subst h2
        go_wp2
        go_roundw
        case rel => exact ⟨k + 1, by omega, by go_num, by simp only [threes, HX.out]; simp, hb.alloc hb.size _⟩
        case measure => simp [intOf]; omega
      · have hne : (x1 == 2) = false := by simpa using h2
        go_wp2
        go_roundw
        case rel => exact ⟨k + 1, by omega, by go_num, by simp only [threes, HX.out]; simp [h2], hb.alloc hb.size _⟩
        case measure => simp [intOf]; omega
    · obtain rfl : k = n := by omega
      go_wp2
      go_ret
      exact ⟨rfl, hb⟩

theorem spec_CountThrees (W : World) (v : Value) (l : List StepT) (h : IsSteps W v l) (hn : l.length ≤ 1048576) : Calls Try.prog 21 #[v] W fun e w' => e = .returned (.int .i64 (threes l l.length)) ∧ Below W.heap.size W w' := by
  obtain ⟨a, cap, rfl, hi⟩ := h
  exact specCt_any _ _ _ _ _ hi (by omega)
theorem impl_CountThrees (W : World) (v : Value) (l : List StepT) (h : IsSteps W v l) (hn : l.length ≤ 1048576) : Calls Try.prog 23 #[v] W fun e w' => e = .returned (.int .i64 (threes l l.length)) ∧ Below W.heap.size W w' := by
  obtain ⟨a, cap, rfl, hi⟩ := h
  exact implCt_any _ _ _ _ _ hi (by omega)
end Go.Proofs.Ytioojfiolepjkaa
