/- Marking graphs and frameworks, and finding the marks again. No condition but sizes. -/
import Derived.Test.YtmfeabfbhaiaeaaFwH
namespace Go.Proofs.Ytmfeabfbhaiaeaa
open Go.RowKit
set_option maxRecDepth 100000
set_option linter.unusedVariables false
set_option linter.unusedSimpArgs false

set_option maxHeartbeats 2000000 in
theorem markGraph_at (W : World) (base : Nat) (p : Int) (a : Option Addr) (cap : Nat) (l : List BarT) (k : Int) (h : OwnBars W base (.slice a l.length cap) l) (hn : l.length ≤ 1099511627776) (hk0 : 0 ≤ k) (hk : k ≤ 1099511627776) :
    Calls Try.prog 19 #[.agg #[.int .i64 p, .slice a l.length cap], .int .i64 k] W fun e w' => e = .returned (.int .i64 (k + cntBars l)) ∧ OwnBars w' base (.slice a l.length cap) (mkdBars k l) ∧ Kept (fun b => some b = Value.ownBlock (.slice a l.length cap)) W w' := by
  have HO := Lib.hid h
  clear h
  have HB : Hid (Below W.heap.size W (W.alloc (.cells #[.int .i64 p, .slice a l.length cap] 32))) := (Below.refl _ _).alloc (Nat.le_refl _) _
  go_enter Try.func19, Try.ntmps19
  go_wp2_with fail
  refine (markBars_any base (.slice a l.length cap) l k _ (HO.out.below HB.out) (by omega) hk0 hk).mono ?_
  rintro e w1 ⟨rfl, om, gm⟩
  have HOM := Lib.hid om
  have HGM : Hid (Kept (fun b => some b = Value.ownBlock (.slice a l.length cap)) W w1) := (Kept.of_below HB.out).trans ⟨gm.os, gm.tape, gm.output, gm.size, fun k hk hs => gm.block k hk hs⟩
  clear om gm
  go_wp2_with fail
  go_ret
  exact ⟨rfl, HOM.out, HGM.out⟩
theorem markGraph_h (W : World) (lo hi : Nat) (v : Value) (g : GraphT) (k : Int) (h : HGraph W lo hi v g) (hn : szGraph g ≤ 1099511627776) (hk0 : 0 ≤ k) (hk : k ≤ 1099511627776) :
    Calls Try.prog 19 #[v, .int .i64 k] W fun e w' => e = .returned (.int .i64 (k + cntGraph g)) ∧ HGraph w' lo hi v (mkdGraph k g) ∧ Kept (Blk lo hi) W w' := by
  obtain ⟨p, l⟩ := g
  obtain ⟨vb, ⟨a, cap, rfl, rfl⟩, ho⟩ := h
  refine (markGraph_at W lo p a cap l k ho.1 hn hk0 hk).mono fun e w' ⟨h1, h2, h3⟩ => ⟨h1, ⟨.slice a l.length cap, ⟨a, cap, by simp [mkdGraph, mkdBars_length], by simp [mkdGraph, mkdBars_length]⟩, h2, ho.2⟩, h3.mono fun b _ hb => ⟨(ho.1.lt b hb.symm).1, ho.2 b hb.symm⟩⟩

set_option maxHeartbeats 2000000 in
theorem heldGraph_h (W : World) (v : Value) (g : GraphT) (k : Int) (h : IsGraph W v (mkdGraph k g)) (hn : szGraph g ≤ 1099511627776) (hk0 : 0 ≤ k) (hk : k ≤ 1099511627776) :
    Calls Try.prog 25 #[v, .int .i64 k] W fun e w' => e = .returned (.int .i64 (k + cntGraph g)) ∧ Below W.heap.size W w' := by
  obtain ⟨p, l⟩ := g
  obtain ⟨a, cap, rfl, hi⟩ := h
  have hn' : l.length ≤ 1099511627776 := hn
  simp only [mkdGraph, mkdBars_length] at hi ⊢
  have HI := Lib.hid hi
  clear hi
  have HB : Hid (Below W.heap.size W (W.alloc (.cells #[.int .i64 p, .slice a l.length cap] 32))) := (Below.refl _ _).alloc (Nat.le_refl _) _
  have hcn : (0 : Int) ≤ k + cntBars l := by unfold cntBars; omega
  have HC : Hid (cntGraph (p, l) = cntBars l) := rfl
  go_enter Try.func25, Try.ntmps25
  go_wp2_with fail
  refine (heldBars_any a l.length cap l k _ (HI.out.below HB.out) rfl (by omega) hk0 hk).mono ?_
  rintro e w1 ⟨rfl, rfl⟩
  go_wp2_with fail
  go_ret
  exact ⟨by rw [HC.out]; try rfl, HB.out⟩

end Go.Proofs.Ytmfeabfbhaiaeaa
