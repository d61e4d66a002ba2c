/- bar, planeRank, raises and IsImplied of the program. Conditions: bars in range, at most 8 points. -/
import Derived.Test.YtmfeabfbhaiaeaaSpB
import Derived.Test.YtmfeabfbhaiaeaaPut
import Derived.Test.YtmfeabfbhaiaeaaMtr1
import Derived.Test.YtmfeabfbhaiaeaaApp3
import Derived.Test.YtmfeabfbhaiaeaaSpA
import Derived.BigRegion
import Derived.Lib.MinMax
import Derived.Deep.RegionHeld3
namespace Go.Proofs.Ytmfeabfbhaiaeaa
open Go.RowKit
set_option maxRecDepth 100000
set_option linter.unusedVariables false
set_option linter.unusedSimpArgs false

set_option maxHeartbeats 1000000 in
theorem hasG_any (W : World) (p : Int) (a : Option Addr) (n cap : Nat) (x : Int) (hp1 : 1 ≤ p) (hp2 : p ≤ 8) :
    Calls Try.prog 95 #[.agg #[.int .i64 p, .slice a n cap], .int .i64 x] W fun e w' => e = .returned (.bool (inB x 0 (p - 1))) ∧ Below W.heap.size W w' := by
  go_enter Try.func95, Try.ntmps95
  go_wp2_with (go_at_call 70; refine (within_any _ _ _ _).mono ?_; rintro e w' ⟨rfl, rfl⟩)
  go_ret
  exact ⟨rfl, (Below.refl _ _).alloc (Nat.le_refl _) _⟩
def rk (n : Nat) (l : List BarT) : Nat := (playP n l 2 3).2.2.length
set_option maxHeartbeats 1000000 in
theorem bar_any (x y : Int) (w : World) : Calls Try.prog 65 #[.int .i64 x, .int .i64 y] w fun e w' => e = .returned (.agg #[.int .i64 (min x y), .int .i64 (max x y)]) ∧ Below w.heap.size w w' := by
  have b0 := belAl w (.cells #[.int .i64 0, .int .i64 0] 84)
  have f0 : (w.alloc (.cells #[.int .i64 0, .int .i64 0] 84)).cell? ⟨w.heap.size, 0, none⟩ = some (.int .i64 0) := by simp [World.cell?_alloc_new]
  go_enter Try.func65, Try.ntmps65
  go_wp2_with fail
  refine bodyPost_ret (v := .agg #[.int .i64 (min x y), .int .i64 (max x y)]) (by simp [results, Try.results65, go_sem, World.cell?_alloc_new]) rfl ⟨rfl, belAl _ _⟩
set_option maxHeartbeats 1000000 in
theorem plane_at (W : World) (n : Nat) (hn : n ≤ 8) (a : Option Addr) (cap : Nat) (l : List BarT) (h : BarsAt W a l.length l) (hs : l.length ≤ 1048576) (hb : Bok n l) :
    Calls Try.prog 129 #[.int .i64 (n : Int), .slice a l.length cap] W fun e w' => e = .returned (.int .i64 (rk n l : Int)) ∧ Below W.heap.size W w' := by
  have HP := Lib.hid (play_at W n 2 hn (by omega) (by omega) a cap l h hs hb 3 ⟨by omega, by omega⟩)
  clear h hb
  unfold rk
  go_enter Try.func129, Try.ntmps129
  go_wp2_with fail
  refine HP.out.mono ?_
  rintro e w1 ⟨v, rfl, ⟨uF, uT, uP, rfl, P3⟩, b⟩
  obtain ⟨aF, cF, rfl, -⟩ := P3.oF.form
  obtain ⟨aT, cT, rfl, -⟩ := P3.oT.form
  obtain ⟨aP, cP, rfl, -⟩ := P3.oP.form
  clear P3 HP
  obtain ⟨S, hS⟩ : ∃ S, S = playP n l 2 3 := ⟨_, rfl⟩
  rw [← hS]
  have HS := Lib.hid hS
  clear hS
  have hfd : ∀ w : World, (Instr.field 104 (.agg #[.slice aF S.1.length cF, .slice aT S.2.1.length cT, .slice aP S.2.2.length cP]) 2).run Try.prog w = .ok (.slice aP S.2.2.length cP) w := fun w => by kernel_rfl
  go_wp2_with fail
  go_ret
  exact ⟨by rw [← HS.out]; try rfl, b⟩

/-- the list of bars that is being copied: not yet, an empty slice, its copy -/
def Tb (w : World) (base : Nat) : Nat → Value → List BarT → Prop
  | 0, _, _ => True
  | 1, v, _ => OwnBars w base v []
  | _ + 2, v, l => OwnBars w base v l
structure R2 (W WU w : World) (l : List BarT) (s1 s5 : Nat) (v : Value) (g : Nat) (x1 x2 : Int) : Prop where
  b : Below W.heap.size W w
  k : Below WU.heap.size WU w
  t : Tb w WU.heap.size s1 v l
  c : s5 ≠ 0 → w.cell? ⟨g, 0, none⟩ = some (.int .i64 x1) ∧ w.cell? ⟨g, 1, none⟩ = some (.int .i64 x2) ∧ g < w.heap.size ∧ (s1 ≠ 0 → v.ownBlock ≠ some g)
theorem Tb.below {w w' : World} {base s : Nat} {v : Value} {l : List BarT} (h : Tb w base s v l) (hb : Below w.heap.size w w') : Tb w' base s v l := by
  match s, h with
  | 0, h => trivial
  | 1, h => exact OwnBars.below h hb
  | s + 2, h => exact OwnBars.below h hb
theorem Tb.lt {w : World} {base s : Nat} {v : Value} {l : List BarT} (h : Tb w base s v l) (hs : s ≠ 0) : ∀ k, v.ownBlock = some k → base ≤ k ∧ k < w.heap.size := by
  match s, h with
  | 0, h => exact absurd rfl hs
  | 1, h => exact OwnBars.lt h
  | s + 2, h => exact OwnBars.lt h
end Go.Proofs.Ytmfeabfbhaiaeaa
