/- Graphs and frameworks as values: reading, owning, and the law's helpers on them. No condition but sizes. -/
import Derived.Test.YtfdhbbhfilkafaaGreatBars
import Derived.Test.YtfdhbbhfilkafaaGreatPlaces
namespace Go.Proofs.YtfdhbbhfilkafaaGreat
open Go.RowKit
set_option maxRecDepth 100000
set_option linter.unusedVariables false
set_option linter.unusedSimpArgs false

abbrev GraphT := Int × List BarT
abbrev FwT := Int × List BarT × List PlaceT

def IsGraph (W : World) (v : Value) (g : GraphT) : Prop := ∃ a cap, v = .agg #[.int .i64 g.1, .slice a g.2.length cap] ∧ BarsAt W a g.2.length g.2
theorem IsGraph.below {W W' : World} {v : Value} {g : GraphT} (h : IsGraph W v g) (hb : Below W.heap.size W W') : IsGraph W' v g := by
  obtain ⟨a, cap, rfl, hi⟩ := h
  exact ⟨a, cap, rfl, hi.below hb⟩
def OwnGraph (W : World) (base : Nat) (v : Value) (g : GraphT) : Prop := ∃ vb, (∃ a cap, vb = .slice a g.2.length cap ∧ v = .agg #[.int .i64 g.1, .slice a g.2.length cap]) ∧ OwnBars W base vb g.2
theorem OwnGraph.form {W : World} {base : Nat} {v : Value} {g : GraphT} (h : OwnGraph W base v g) : IsGraph W v g := by
  obtain ⟨vb, ⟨a, cap, rfl, rfl⟩, ho⟩ := h
  obtain ⟨a', cap', he, hi⟩ := ho.form
  simp at he
  obtain ⟨rfl, rfl⟩ := he
  exact ⟨a, cap, rfl, hi⟩
theorem OwnGraph.of {W : World} {base : Nat} {p : Int} {vb : Value} {l : List BarT} (h : OwnBars W base vb l) : ∃ a cap, vb = .slice a l.length cap ∧ OwnGraph W base (.agg #[.int .i64 p, .slice a l.length cap]) (p, l) := by
  obtain ⟨a, cap, rfl, hi⟩ := h.form
  exact ⟨a, cap, rfl, _, ⟨a, cap, rfl, rfl⟩, h⟩
def HGraph (W : World) (lo hi : Nat) (v : Value) (g : GraphT) : Prop := ∃ vb, (∃ a cap, vb = .slice a g.2.length cap ∧ v = .agg #[.int .i64 g.1, .slice a g.2.length cap]) ∧ HBars W lo hi vb g.2
theorem HGraph.own {W : World} {lo hi : Nat} {v : Value} {g : GraphT} (h : HGraph W lo hi v g) : OwnGraph W lo v g := by
  obtain ⟨vb, e, ho⟩ := h
  exact ⟨vb, e, ho.1⟩
theorem HGraph.is {W : World} {lo hi : Nat} {v : Value} {g : GraphT} (h : HGraph W lo hi v g) : IsGraph W v g := h.own.form
theorem HGraph.kept {W W' : World} {lo hi : Nat} {v : Value} {g : GraphT} {S : Nat → Prop} (h : HGraph W lo hi v g) (hk : Kept S W W') (hd : ∀ k, lo ≤ k → k < hi → ¬ S k) : HGraph W' lo hi v g := by
  obtain ⟨vb, e, ho⟩ := h
  exact ⟨vb, e, ho.kept hk hd⟩
theorem HGraph.below {W W' : World} {lo hi : Nat} {v : Value} {g : GraphT} (h : HGraph W lo hi v g) (hb : Below W.heap.size W W') : HGraph W' lo hi v g := h.kept (Kept.of_below (S := fun _ => False) hb) fun _ _ _ => id
theorem OwnGraph.h {W : World} {lo : Nat} {v : Value} {g : GraphT} (h : OwnGraph W lo v g) : HGraph W lo W.heap.size v g := by
  obtain ⟨vb, e, ho⟩ := h
  exact ⟨vb, e, ho.h⟩
def RetGraph (W : World) (g : GraphT) (e : Ending) (w' : World) : Prop := ∃ v, e = .returned v ∧ OwnGraph w' W.heap.size v g ∧ Below W.heap.size W w'
def szGraph (g : GraphT) : Nat := g.2.length
def cntGraph (g : GraphT) : Nat := cntBars g.2
theorem cntGraph_le (g : GraphT) : cntGraph g ≤ 2 * szGraph g := Nat.le_refl _
def mkdGraph (k : Int) (g : GraphT) : GraphT := (g.1, mkdBars k g.2)
def OkGraph (g : GraphT) : Prop := (-9223372036854775808 ≤ g.1 ∧ g.1 ≤ 9223372036854775807) ∧ OkBars g.2

def IsFw (W : World) (v : Value) (f : FwT) : Prop := ∃ a cap b capb, v = .agg #[.int .i64 f.1, .slice a f.2.1.length cap, .slice b f.2.2.length capb] ∧ BarsAt W a f.2.1.length f.2.1 ∧ PlacesAt W b f.2.2.length f.2.2
theorem IsFw.below {W W' : World} {v : Value} {f : FwT} (h : IsFw W v f) (hb : Below W.heap.size W W') : IsFw W' v f := by
  obtain ⟨a, cap, b, capb, rfl, hi, hj⟩ := h
  exact ⟨a, cap, b, capb, rfl, hi.below hb, hj.below hb⟩
def FwOf (v vb vp : Value) (f : FwT) : Prop := ∃ a cap b capb, vb = .slice a f.2.1.length cap ∧ vp = .slice b f.2.2.length capb ∧ v = .agg #[.int .i64 f.1, .slice a f.2.1.length cap, .slice b f.2.2.length capb]
def szFw (f : FwT) : Nat := f.2.1.length + f.2.2.length
def cntFw (f : FwT) : Nat := cntBars f.2.1 + cntPlaces f.2.2
theorem cntFw_le (f : FwT) : cntFw f ≤ 2 * szFw f := by unfold cntFw szFw cntBars cntPlaces; omega
def mkdFw (k : Int) (f : FwT) : FwT := (f.1, mkdBars k f.2.1, mkdPlaces (k + cntBars f.2.1) f.2.2)
def OkFw (f : FwT) : Prop := (-9223372036854775808 ≤ f.1 ∧ f.1 ≤ 9223372036854775807) ∧ OkBars f.2.1 ∧ OkPlaces f.2.2

end Go.Proofs.YtfdhbbhfilkafaaGreat
