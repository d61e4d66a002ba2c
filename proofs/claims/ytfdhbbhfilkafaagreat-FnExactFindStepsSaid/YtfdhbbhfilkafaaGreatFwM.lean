/- Marking graphs and frameworks, and finding the marks again. No condition but sizes. -/
import Derived.Test.YtfdhbbhfilkafaaGreatFwH
namespace Go.Proofs.YtfdhbbhfilkafaaGreat
open Go.RowKit
set_option maxRecDepth 100000
set_option linter.unusedVariables false
set_option linter.unusedSimpArgs false

set_option maxHeartbeats 2000000 in
theorem markGraph_at (W : World) (base : Nat) (p : Int) (a : Option Addr) (cap : Nat) (l : List BarT) (k : Int) (h : OwnBars W base (.slice a l.length cap) l) (hn : l.length ≤ 1099511627776) (hk0 : 0 ≤ k) (hk : k ≤ 1099511627776) :
    Calls Tryz.prog 50 #[.agg #[.int .i64 p, .slice a l.length cap], .int .i64 k] W fun e w' => e = .returned (.int .i64 (k + cntBars l)) ∧ OwnBars w' base (.slice a l.length cap) (mkdBars k l) ∧ Kept (fun b => some b = Value.ownBlock (.slice a l.length cap)) W w' := by
  have HO := Lib.hid h
  clear h
  have HB : Hid (Below W.heap.size W (W.alloc (.cells #[.int .i64 p, .slice a l.length cap] 26))) := (Below.refl _ _).alloc (Nat.le_refl _) _
  go_enter Tryz.func50, Tryz.ntmps50
  go_wp2_with fail
  refine (markBars_any base (.slice a l.length cap) l k _ (HO.out.below HB.out) (by omega) hk0 hk).mono ?_
  rintro e w1 ⟨rfl, om, gm⟩
  have HOM := Lib.hid om
  have HGM : Hid (Kept (fun b => some b = Value.ownBlock (.slice a l.length cap)) W w1) := (Kept.of_below HB.out).trans ⟨gm.os, gm.tape, gm.output, gm.size, fun k hk hs => gm.block k hk hs⟩
  clear om gm
  go_wp2_with fail
  go_ret
  exact ⟨rfl, HOM.out, HGM.out⟩
theorem markGraph_h (W : World) (lo hi : Nat) (v : Value) (g : GraphT) (k : Int) (h : HGraph W lo hi v g) (hn : szGraph g ≤ 1099511627776) (hk0 : 0 ≤ k) (hk : k ≤ 1099511627776) :
    Calls Tryz.prog 50 #[v, .int .i64 k] W fun e w' => e = .returned (.int .i64 (k + cntGraph g)) ∧ HGraph w' lo hi v (mkdGraph k g) ∧ Kept (Blk lo hi) W w' := by
  obtain ⟨p, l⟩ := g
  obtain ⟨vb, ⟨a, cap, rfl, rfl⟩, ho⟩ := h
  refine (markGraph_at W lo p a cap l k ho.1 hn hk0 hk).mono fun e w' ⟨h1, h2, h3⟩ => ⟨h1, ⟨.slice a l.length cap, ⟨a, cap, by simp [mkdGraph, mkdBars_length], by simp [mkdGraph, mkdBars_length]⟩, h2, ho.2⟩, h3.mono fun b _ hb => ⟨(ho.1.lt b hb.symm).1, ho.2 b hb.symm⟩⟩

end Go.Proofs.YtfdhbbhfilkafaaGreat
