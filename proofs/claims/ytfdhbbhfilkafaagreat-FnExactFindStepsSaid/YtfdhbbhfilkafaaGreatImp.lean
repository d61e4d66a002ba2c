/- bar, planeRank, raises and IsImplied of the program. Conditions: bars in range, at most 8 points. -/
import Derived.Test.YtfdhbbhfilkafaaGreatSpB
import Derived.Test.YtfdhbbhfilkafaaGreatPut
import Derived.Test.YtfdhbbhfilkafaaGreatMtr1
import Derived.Test.YtfdhbbhfilkafaaGreatApp3
import Derived.Test.YtfdhbbhfilkafaaGreatSpA
import Derived.BigRegion
import Derived.Lib.MinMax
import Derived.Deep.RegionHeld3
namespace Go.Proofs.YtfdhbbhfilkafaaGreat
open Go.RowKit
set_option maxRecDepth 100000
set_option linter.unusedVariables false
set_option linter.unusedSimpArgs false

set_option maxHeartbeats 1000000 in
theorem hasG_any (W : World) (p : Int) (a : Option Addr) (n cap : Nat) (x : Int) (hp1 : 1 ≤ p) (hp2 : p ≤ 8) :
    Calls Tryz.prog 137 #[.agg #[.int .i64 p, .slice a n cap], .int .i64 x] W fun e w' => e = .returned (.bool (inB x 0 (p - 1))) ∧ Below W.heap.size W w' := by
  go_enter Tryz.func137, Tryz.ntmps137
  go_wp2_with (go_at_call 55; refine (within_any _ _ _ _).mono ?_; rintro e w' ⟨rfl, rfl⟩)
  go_ret
  exact ⟨rfl, (Below.refl _ _).alloc (Nat.le_refl _) _⟩
def rk (n : Nat) (l : List BarT) : Nat := (playP n l 2 3).2.2.length
set_option maxHeartbeats 1000000 in
theorem bar_any (x y : Int) (w : World) : Calls Tryz.prog 101 #[.int .i64 x, .int .i64 y] w fun e w' => e = .returned (.agg #[.int .i64 (min x y), .int .i64 (max x y)]) ∧ Below w.heap.size w w' := by
  have b0 := belAl w (.cells #[.int .i64 0, .int .i64 0] 78)
  have f0 : (w.alloc (.cells #[.int .i64 0, .int .i64 0] 78)).cell? ⟨w.heap.size, 0, none⟩ = some (.int .i64 0) := by simp [World.cell?_alloc_new]
  go_enter Tryz.func101, Tryz.ntmps101
  go_wp2_with fail
  refine bodyPost_ret (v := .agg #[.int .i64 (min x y), .int .i64 (max x y)]) (by simp [results, Tryz.results101, go_sem, World.cell?_alloc_new]) rfl ⟨rfl, belAl _ _⟩
/-- the list of bars that is being copied: not yet, an empty slice, its copy -/
def Tb (w : World) (base : Nat) : Nat → Value → List BarT → Prop
  | 0, _, _ => True
  | 1, v, _ => OwnBars w base v []
  | _ + 2, v, l => OwnBars w base v l
structure R2 (W WU w : World) (l : List BarT) (s1 s5 : Nat) (v : Value) (g : Nat) (x1 x2 : Int) : Prop where
  b : Below W.heap.size W w
  k : Below WU.heap.size WU w
  t : Tb w WU.heap.size s1 v l
  c : s5 ≠ 0 → w.cell? ⟨g, 0, none⟩ = some (.int .i64 x1) ∧ w.cell? ⟨g, 1, none⟩ = some (.int .i64 x2) ∧ g < w.heap.size ∧ (s1 ≠ 0 → v.ownBlock ≠ some g)
theorem Tb.below {w w' : World} {base s : Nat} {v : Value} {l : List BarT} (h : Tb w base s v l) (hb : Below w.heap.size w w') : Tb w' base s v l := by
  match s, h with
  | 0, h => trivial
  | 1, h => exact OwnBars.below h hb
  | s + 2, h => exact OwnBars.below h hb
theorem Tb.lt {w : World} {base s : Nat} {v : Value} {l : List BarT} (h : Tb w base s v l) (hs : s ≠ 0) : ∀ k, v.ownBlock = some k → base ≤ k ∧ k < w.heap.size := by
  match s, h with
  | 0, h => exact absurd rfl hs
  | 1, h => exact OwnBars.lt h
  | s + 2, h => exact OwnBars.lt h
end Go.Proofs.YtfdhbbhfilkafaaGreat
