/- Marking graphs and frameworks, and finding the marks again. No condition but sizes. -/
import Derived.Test.YtnjecekaenddiaaFwH
namespace Go.Proofs.Ytnjecekaenddiaa
open Go.RowKit
set_option maxRecDepth 100000
set_option linter.unusedVariables false
set_option linter.unusedSimpArgs false

set_option maxHeartbeats 2000000 in
theorem markGraph_at (W : World) (base : Nat) (p : Int) (a : Option Addr) (cap : Nat) (l : List BarT) (k : Int) (h : OwnBars W base (.slice a l.length cap) l) (hn : l.length ≤ 1099511627776) (hk0 : 0 ≤ k) (hk : k ≤ 1099511627776) :
    Calls Try.prog 45 #[.agg #[.int .i64 p, .slice a l.length cap], .int .i64 k] W fun e w' => e = .returned (.int .i64 (k + cntBars l)) ∧ OwnBars w' base (.slice a l.length cap) (mkdBars k l) ∧ Kept (fun b => some b = Value.ownBlock (.slice a l.length cap)) W w' := by
  have HO := Lib.hid h
  clear h
  have HB : Hid (Below W.heap.size W (W.alloc (.cells #[.int .i64 p, .slice a l.length cap] 39))) := (Below.refl _ _).alloc (Nat.le_refl _) _
  go_enter Try.func45, Try.ntmps45
  go_wp2_with fail
  refine (markBars_any base (.slice a l.length cap) l k _ (HO.out.below HB.out) (by omega) hk0 hk).mono ?_
  rintro e w1 ⟨rfl, om, gm⟩
  have HOM := Lib.hid om
  have HGM : Hid (Kept (fun b => some b = Value.ownBlock (.slice a l.length cap)) W w1) := (Kept.of_below HB.out).trans ⟨gm.os, gm.tape, gm.output, gm.size, fun k hk hs => gm.block k hk hs⟩
  clear om gm
  go_wp2_with fail
  go_ret
  exact ⟨rfl, HOM.out, HGM.out⟩
theorem markGraph_h (W : World) (lo hi : Nat) (v : Value) (g : GraphT) (k : Int) (h : HGraph W lo hi v g) (hn : szGraph g ≤ 1099511627776) (hk0 : 0 ≤ k) (hk : k ≤ 1099511627776) :
    Calls Try.prog 45 #[v, .int .i64 k] W fun e w' => e = .returned (.int .i64 (k + cntGraph g)) ∧ HGraph w' lo hi v (mkdGraph k g) ∧ Kept (Blk lo hi) W w' := by
  obtain ⟨p, l⟩ := g
  obtain ⟨vb, ⟨a, cap, rfl, rfl⟩, ho⟩ := h
  refine (markGraph_at W lo p a cap l k ho.1 hn hk0 hk).mono fun e w' ⟨h1, h2, h3⟩ => ⟨h1, ⟨.slice a l.length cap, ⟨a, cap, by simp [mkdGraph, mkdBars_length], by simp [mkdGraph, mkdBars_length]⟩, h2, ho.2⟩, h3.mono fun b _ hb => ⟨(ho.1.lt b hb.symm).1, ho.2 b hb.symm⟩⟩

set_option maxHeartbeats 2000000 in
theorem heldGraph_h (W : World) (v : Value) (g : GraphT) (k : Int) (h : IsGraph W v (mkdGraph k g)) (hn : szGraph g ≤ 1099511627776) (hk0 : 0 ≤ k) (hk : k ≤ 1099511627776) :
    Calls Try.prog 47 #[v, .int .i64 k] W fun e w' => e = .returned (.int .i64 (k + cntGraph g)) ∧ Below W.heap.size W w' := by
  obtain ⟨p, l⟩ := g
  obtain ⟨a, cap, rfl, hi⟩ := h
  have hn' : l.length ≤ 1099511627776 := hn
  simp only [mkdGraph, mkdBars_length] at hi ⊢
  have HI := Lib.hid hi
  clear hi
  have HB : Hid (Below W.heap.size W (W.alloc (.cells #[.int .i64 p, .slice a l.length cap] 39))) := (Below.refl _ _).alloc (Nat.le_refl _) _
  have hcn : (0 : Int) ≤ k + cntBars l := by unfold cntBars; omega
  have HC : Hid (cntGraph (p, l) = cntBars l) := rfl
  go_enter Try.func47, Try.ntmps47
  go_wp2_with fail
  refine (heldBars_any a l.length cap l k _ (HI.out.below HB.out) rfl (by omega) hk0 hk).mono ?_
  rintro e w1 ⟨rfl, rfl⟩
  go_wp2_with fail
  go_ret
  exact ⟨by rw [HC.out]; try rfl, HB.out⟩

set_option maxHeartbeats 4000000 in
theorem markFw_h (W : World) (lo hi : Nat) (v : Value) (f : FwT) (k : Int) (h : HFw W lo hi v f) (hn : szFw f ≤ 1048576) (hk0 : 0 ≤ k) (hk : k ≤ 10995116277) :
    Calls Try.prog 19 #[v, .int .i64 k] W fun e w' => e = .returned (.int .i64 (k + cntFw f)) ∧ HFw w' lo hi v (mkdFw k f) ∧ Kept (Blk lo hi) W w' := by
  obtain ⟨p, l, q⟩ := f
  obtain ⟨vb, vp, ⟨a, cap, c, capc, rfl, rfl, rfl⟩, ho, hp⟩ := h
  have hn' : l.length + q.length ≤ 1048576 := hn
  have hap := bars_places ho.1 hp.1
  have HAP := Lib.hid hap
  dsimp only at ho hp hap ⊢
  have HO := Lib.hid ho
  have HP := Lib.hid hp
  clear ho hp hap
  have HB : Hid (Below W.heap.size W (W.alloc (.cells #[.int .i64 p, .slice a l.length cap, .slice c q.length capc] 42))) := (Below.refl _ _).alloc (Nat.le_refl _) _
  have HBlkB : Hid (∀ b, some b = Value.ownBlock (.slice a l.length cap) → Blk lo hi b ∧ b < W.heap.size) := fun b hb => ⟨⟨(HO.out.1.lt b hb.symm).1, HO.out.2 b hb.symm⟩, (HO.out.1.lt b hb.symm).2⟩
  have HBlkP : Hid (∀ b, some b = Value.ownBlock (.slice c q.length capc) → Blk lo hi b) := fun b hb => ⟨(HP.out.1.lt b hb.symm).1, HP.out.2 b hb.symm⟩
  have HC : Hid (cntFw (p, l, q) = cntBars l + cntPlaces q) := rfl
  have hcb : (cntBars l : Int) ≤ 2097152 := by unfold cntBars; omega
  have hcb0 : (0 : Int) ≤ cntBars l := by omega
  go_enter Try.func19, Try.ntmps19
  go_wp2_with fail
  refine (markGraph_at _ lo p a cap l k (HO.out.1.below HB.out) (by omega) hk0 (by omega)).mono ?_
  rintro e w1 ⟨rfl, ho1, hk1⟩
  have hc : ∀ o, w1.cell? ⟨W.heap.size, o, none⟩ = (W.alloc (.cells #[.int .i64 p, .slice a l.length cap, .slice c q.length capc] 42)).cell? ⟨W.heap.size, o, none⟩ := fun o =>
    World.cell?_of_block (a := ⟨W.heap.size, o, none⟩) (hk1.block W.heap.size (by simp) fun hb => by have := (HBlkB.out _ hb).2; omega)
  have HO1 := Lib.hid ho1
  have HK1 : Hid (Kept (Blk lo hi) W w1) := (Kept.of_below HB.out).trans ⟨hk1.os, hk1.tape, hk1.output, hk1.size, fun b hb hs => hk1.block b hb fun hb2 => hs (HBlkB.out b hb2).1⟩
  have HP1 : Hid (OwnPlaces w1 lo (.slice c q.length capc) q) := hk1.ownsRow (HP.out.1.below HB.out) fun b h1 h2 => HAP.out b h2.symm h1
  clear ho1 hk1
  go_wp2_with fail
  refine (markPlaces_any lo (.slice c q.length capc) q _ _ HP1.out (by omega) (by omega) (by omega)).mono ?_
  rintro e w2 ⟨rfl, hp2, hg2⟩
  have HP2 := Lib.hid hp2
  have HO2 : Hid (OwnBars w2 lo (.slice a l.length cap) (mkdBars k l)) := (Kept.of_grown hg2).ownsRow HO1.out fun b h1 h2 => HAP.out b h1 h2.symm
  have HK2 : Hid (Kept (Blk lo hi) W w2) := HK1.out.trans ⟨hg2.os, hg2.tape, hg2.output, hg2.size, fun b hb hs => hg2.block b hb fun hb2 => hs (HBlkP.out b hb2)⟩
  clear hp2 hg2 hc
  go_wp2_with fail
  go_ret
  refine ⟨?_, ⟨.slice a l.length cap, .slice c q.length capc, ⟨a, cap, c, capc, by simp [mkdFw, mkdBars_length], by simp [mkdFw, mkdPlaces_length], by simp [mkdFw, mkdBars_length, mkdPlaces_length]⟩, ⟨HO2.out, HO.out.2⟩, ⟨HP2.out, HP.out.2⟩⟩, HK2.out⟩
  rw [HC.out]
  exact ret_int (by omega)

set_option maxHeartbeats 4000000 in
theorem heldFw_h (W : World) (v : Value) (f : FwT) (k : Int) (h : IsFw W v (mkdFw k f)) (hn : szFw f ≤ 1048576) (hk0 : 0 ≤ k) (hk : k ≤ 10995116277) :
    Calls Try.prog 20 #[v, .int .i64 k] W fun e w' => e = .returned (.int .i64 (k + cntFw f)) ∧ Below W.heap.size W w' := by
  obtain ⟨p, l, q⟩ := f
  obtain ⟨a, cap, c, capc, rfl, hi, hj⟩ := h
  have hn' : l.length + q.length ≤ 1048576 := hn
  simp only [mkdFw, mkdBars_length, mkdPlaces_length] at hi hj ⊢
  have HI := Lib.hid hi
  have HJ := Lib.hid hj
  clear hi hj
  have HB : Hid (Below W.heap.size W (W.alloc (.cells #[.int .i64 p, .slice a l.length cap, .slice c q.length capc] 42))) := (Below.refl _ _).alloc (Nat.le_refl _) _
  have HC : Hid (cntFw (p, l, q) = cntBars l + cntPlaces q) := rfl
  have HG : Hid (cntGraph (p, l) = cntBars l) := rfl
  have hcb : (cntBars l : Int) ≤ 2097152 := by unfold cntBars; omega
  have hcb0 : (0 : Int) ≤ cntBars l := by omega
  have hcp : (cntPlaces q : Int) ≤ 2097152 := by unfold cntPlaces; omega
  have hcp0 : (0 : Int) ≤ cntPlaces q := by omega
  go_enter Try.func20, Try.ntmps20
  go_wp2_with fail
  refine (heldGraph_h _ _ (p, l) k ⟨a, cap, by simp [mkdGraph, mkdBars_length], by simp only [mkdGraph, mkdBars_length]; exact HI.out.below HB.out⟩ (show l.length ≤ _ by omega) hk0 (by omega)).mono ?_
  rintro e w1 ⟨rfl, b1⟩
  rw [HG.out]
  obtain ⟨hc, hf⟩ := bcell b1
  have HB1 : Hid (Below W.heap.size W w1) := HB.out.trans (b1.mono (by simp))
  clear b1
  go_wp2_with fail
  refine (heldPlaces_any c q.length capc q _ _ (HJ.out.below HB1.out) rfl (by omega) (by omega) (by omega)).mono ?_
  rintro e w2 ⟨rfl, rfl⟩
  go_wp2_with fail
  go_ret
  refine ⟨?_, HB1.out⟩
  rw [HC.out]
  exact ret_int (by omega)
end Go.Proofs.Ytnjecekaenddiaa
