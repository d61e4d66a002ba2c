/- IsRange of both sides. No condition. -/
import Derived.Test.YtfdhbbhfilkafaaGreatOwn
import Derived.Deep.RegionHeld3
namespace Go.Proofs.YtfdhbbhfilkafaaGreat
open Go.RowKit
set_option maxRecDepth 100000
set_option linter.unusedVariables false
set_option linter.unusedSimpArgs false
theorem belAl (w : World) (o : Obj) : Below w.heap.size w (w.alloc o) := (Below.refl _ _).alloc (Nat.le_refl _) _
def rangeB (k l : Int) : Bool := inB k 1 3 && inB l 0 (2 * k - 1)
set_option maxHeartbeats 1000000 in
theorem implRange_any (k l : Int) (w : World) : Calls Tryz.prog 95 #[.int .i64 k, .int .i64 l] w fun e w' => e = .returned (.bool (rangeB k l)) ∧ Below w.heap.size w w' := by
  cases hk : inB k 1 3
  · have HE := Lib.hid (ret_bool (show rangeB k l = false by unfold rangeB; rw [hk]; rfl))
    have HC : Hid (Calls Tryz.prog 55 #[.int .i64 k, .int .i64 1, .int .i64 3] w fun e w' => e = .returned (.bool false) ∧ w = w') := Lib.hid (by have := within_any k 1 3 w; rwa [hk] at this)
    clear hk
    go_enter Tryz.func95, Tryz.ntmps95
    go_wp2_with fail
    refine HC.out.mono ?_
    rintro e w1 ⟨rfl, rfl⟩
    go_wp2_with fail
    go_ret
    exact ⟨HE.out.symm, Below.refl _ _⟩
  · have hk2 : 1 ≤ k ∧ k ≤ 3 := by simpa [inB] using hk
    have HC : Hid (Calls Tryz.prog 55 #[.int .i64 k, .int .i64 1, .int .i64 3] w fun e w' => e = .returned (.bool true) ∧ w = w') := Lib.hid (by have := within_any k 1 3 w; rwa [hk] at this)
    have HE := Lib.hid (ret_bool (show rangeB k l = inB l 0 (2 * k - 1) by unfold rangeB; rw [hk]; rfl))
    clear hk
    go_enter Tryz.func95, Tryz.ntmps95
    go_wp2_with fail
    refine HC.out.mono ?_
    rintro e w1 ⟨rfl, rfl⟩
    go_wp2_with fail
    refine (within_any l 0 (2 * k - 1) w).mono ?_
    rintro e w1 ⟨rfl, rfl⟩
    go_wp2_with fail
    go_ret
    exact ⟨HE.out.symm, Below.refl _ _⟩
set_option maxHeartbeats 1000000 in
theorem specRange_any (k l : Int) (w : World) : Calls Tryz.prog 79 #[.int .i64 k, .int .i64 l] w fun e w' => e = .returned (.bool (rangeB k l)) ∧ Below w.heap.size w w' := by
  cases hk : inB k 1 3
  · have HE := Lib.hid (ret_bool (show rangeB k l = false by unfold rangeB; rw [hk]; rfl))
    have HC : Hid (Calls Tryz.prog 60 #[.int .i64 k, .int .i64 1, .int .i64 3] w fun e w' => e = .returned (.bool false) ∧ w = w') := Lib.hid (by have := l1In_any k 1 3 w; rwa [hk] at this)
    clear hk
    go_enter Tryz.func79, Tryz.ntmps79
    go_wp2_with fail
    refine HC.out.mono ?_
    rintro e w1 ⟨rfl, rfl⟩
    go_wp2_with fail
    go_ret
    exact ⟨HE.out.symm, Below.refl _ _⟩
  · have hk2 : 1 ≤ k ∧ k ≤ 3 := by simpa [inB] using hk
    have HC : Hid (Calls Tryz.prog 60 #[.int .i64 k, .int .i64 1, .int .i64 3] w fun e w' => e = .returned (.bool true) ∧ w = w') := Lib.hid (by have := l1In_any k 1 3 w; rwa [hk] at this)
    have HE := Lib.hid (show rangeB k l = (decide (0 ≤ l) && decide (l < 2 * k)) by
      unfold rangeB; rw [hk, Bool.true_and]; unfold inB
      rw [show decide (l ≤ 2 * k - 1) = decide (l < 2 * k) from decide_eq_decide.2 (by omega)])
    clear hk
    by_cases h1 : 0 ≤ l
    · by_cases h2 : l < 2 * k
      · go_enter Tryz.func79, Tryz.ntmps79
        go_wp2_with fail
        refine HC.out.mono ?_
        rintro e w1 ⟨rfl, rfl⟩
        go_wp2_with fail
        go_ret
        exact ⟨by rw [HE.out]; simp [h1, h2], Below.refl _ _⟩
      · go_enter Tryz.func79, Tryz.ntmps79
        go_wp2_with fail
        refine HC.out.mono ?_
        rintro e w1 ⟨rfl, rfl⟩
        go_wp2_with fail
        go_ret
        exact ⟨by rw [HE.out]; simp [h1, h2], Below.refl _ _⟩
    · go_enter Tryz.func79, Tryz.ntmps79
      go_wp2_with fail
      refine HC.out.mono ?_
      rintro e w1 ⟨rfl, rfl⟩
      go_wp2_with fail
      go_ret
      exact ⟨by rw [HE.out, decide_eq_false (show ¬ 0 ≤ l by omega)]; rfl, Below.refl _ _⟩

end Go.Proofs.YtfdhbbhfilkafaaGreat
