/- A graph as a result, boxed in a region that draws its order: what the region leaves. No condition. -/
import Derived.Test.YtfdhbbhfilkafaaGreatOnl
import Derived.Test.YtfdhbbhfilkafaaGreatBox
import Derived.Test.YtfdhbbhfilkafaaGreatFwH
import Derived.Test.YtfdhbbhfilkafaaGreatFwM
namespace Go.Proofs.YtfdhbbhfilkafaaGreat
open Go.RowKit
set_option maxRecDepth 100000
set_option linter.unusedVariables false
set_option linter.unusedSimpArgs false
theorem Zer2.drew {w : World} {g : Nat} (h : Zer2 w g) : Zer2 w.drew g := h
/-- behind the region: the result's box and what it owns -/
def CutGr (W0 : World) (p : Int) (l : List BarT) (s : Value) (wx : World) : Prop :=
  ∃ g ab cb lo hi, s = .pointer (some ⟨g, 0, none⟩) ∧ BoxGr wx g p ab l.length cb ∧ HGraph wx lo hi (.agg #[.int .i64 p, .slice ab l.length cb]) (p, l) ∧ (g < lo ∨ hi ≤ g) ∧ W0.heap.size ≤ lo ∧ lo ≤ hi ∧ hi ≤ wx.heap.size ∧ W0.heap.size ≤ g ∧ (wx.frozen? ⟨g, 0, none⟩ = false ∧ wx.frozen? ⟨g, 1, none⟩ = false) ∧ Below W0.heap.size W0 wx
theorem boxS2 {w : World} {g : Nat} {p : Int} {ab : Option Addr} {n cb : Nat} (h : Zer2 w g) : BoxGr ((w.setCell ⟨g, 0, none⟩ (.int .i64 p)).setCell ⟨g, 1, none⟩ (.slice ab n cb)) g p ab n cb := by
  obtain ⟨⟨a, b, c, c0, c1⟩, ⟨f0, f1⟩, hz⟩ := h
  have o01 : (⟨g, 0, none⟩ : Addr) ≠ ⟨g, 1, none⟩ := by simp
  exact ⟨by simpa using hz,
    (World.cell?_setCell_other _ _ _ _ o01.symm).trans (World.cell?_setCell_same _ _ _ c0),
    World.cell?_setCell_same _ _ _ ((World.cell?_setCell_other _ _ _ _ o01).trans c1)⟩
theorem cutA2 {W0 w : World} {g lo hi : Nat} {p : Int} {l : List BarT} {ab : Option Addr} {cb : Nat} (hz : Zer2 w g)
    (h : HGraph w lo hi (.agg #[.int .i64 p, .slice ab l.length cb]) (p, l)) (hs : g < lo ∨ hi ≤ g) (h1 : W0.heap.size ≤ lo) (h2 : lo ≤ hi) (h3 : hi ≤ w.heap.size) (h4 : W0.heap.size ≤ g) (hb : Below W0.heap.size W0 w) :
    CutGr W0 p l (.pointer (some ⟨g, 0, none⟩)) ((w.setCell ⟨g, 0, none⟩ (.int .i64 p)).setCell ⟨g, 1, none⟩ (.slice ab l.length cb)) := by
  refine ⟨g, ab, cb, lo, hi, rfl, boxS2 hz, ?_, hs, h1, h2, by simpa using h3, h4, ⟨(World.frozen?_setCell _ _ _ _).trans ((World.frozen?_setCell _ _ _ _).trans hz.2.1.1), (World.frozen?_setCell _ _ _ _).trans ((World.frozen?_setCell _ _ _ _).trans hz.2.1.2)⟩, (hb.setCell (by simp; omega) _).setCell (by simp; omega) _⟩
  refine h.kept ((keptSet' (S := fun b => b = g) rfl).trans (keptSet' (S := fun b => b = g) rfl)) fun k h5 h6 h7 => ?_
  omega
theorem cutB2 {W0 w : World} {lo hi : Nat} {p : Int} {l : List BarT} {ab : Option Addr} {cb : Nat} (ty : TypeId)
    (h : HGraph w lo hi (.agg #[.int .i64 p, .slice ab l.length cb]) (p, l)) (h1 : W0.heap.size ≤ lo) (h2 : lo ≤ hi) (h3 : hi ≤ w.heap.size) (hb : Below W0.heap.size W0 w) :
    CutGr W0 p l (.pointer (some ⟨w.heap.size, 0, none⟩)) (w.alloc (.cells #[.int .i64 p, .slice ab l.length cb] ty)) := by
  have ba : Below w.heap.size w (w.alloc (.cells #[.int .i64 p, .slice ab l.length cb] ty)) := (Below.refl _ _).alloc (Nat.le_refl _) _
  exact ⟨w.heap.size, ab, cb, lo, hi, rfl, BoxGr.at rfl, h.below ba, .inr h3, h1, h2, by simp; omega, hb.size, ⟨by simp [World.frozen?_alloc_new], by simp [World.frozen?_alloc_new]⟩, hb.step ba⟩
theorem cutC2 {W0 w : World} {lo hi : Nat} {p : Int} {l : List BarT} {ab : Option Addr} {cb : Nat} (ty : TypeId)
    (h : HGraph w lo hi (.agg #[.int .i64 p, .slice ab l.length cb]) (p, l)) (h1 : W0.heap.size ≤ lo) (h2 : lo ≤ hi) (h3 : hi ≤ w.heap.size) (hb : Below W0.heap.size W0 w) :
    CutGr W0 p l (.pointer (some ⟨w.heap.size, 0, none⟩)) (((w.alloc (.cells #[.int .i64 0, .slice none 0 0] ty)).setCell ⟨w.heap.size, 0, none⟩ (.int .i64 p)).setCell ⟨w.heap.size, 1, none⟩ (.slice ab l.length cb)) := by
  have ba : Below w.heap.size w (w.alloc (.cells #[.int .i64 0, .slice none 0 0] ty)) := (Below.refl _ _).alloc (Nat.le_refl _) _
  exact cutA2 (Zer2.at w ty) (h.below ba) (.inr h3) h1 h2 (by simp; omega) hb.size (hb.step ba)
theorem reBox {w : World} {g : Nat} {p q : Int} {a a' : Option Addr} {n c n' c' : Nat} (h : BoxGr w g p a n c) (f0 : w.frozen? ⟨g, 0, none⟩ = false) (f1 : w.frozen? ⟨g, 1, none⟩ = false) :
    BoxGr ((w.setCell ⟨g, 0, none⟩ (.int .i64 q)).setCell ⟨g, 1, none⟩ (.slice a' n' c')) g q a' n' c' ∧ ((w.setCell ⟨g, 0, none⟩ (.int .i64 q)).setCell ⟨g, 1, none⟩ (.slice a' n' c')).frozen? ⟨g, 0, none⟩ = false ∧ ((w.setCell ⟨g, 0, none⟩ (.int .i64 q)).setCell ⟨g, 1, none⟩ (.slice a' n' c')).frozen? ⟨g, 1, none⟩ = false ∧ Kept (fun b => b = g) w ((w.setCell ⟨g, 0, none⟩ (.int .i64 q)).setCell ⟨g, 1, none⟩ (.slice a' n' c')) := by
  obtain ⟨hz, c0, c1⟩ := h
  have o01 : (⟨g, 0, none⟩ : Addr) ≠ ⟨g, 1, none⟩ := by simp
  exact ⟨⟨by simpa using hz,
    (World.cell?_setCell_other _ _ _ _ o01.symm).trans (World.cell?_setCell_same _ _ _ c0),
    World.cell?_setCell_same _ _ _ ((World.cell?_setCell_other _ _ _ _ o01).trans c1)⟩, (World.frozen?_setCell _ _ _ _).trans ((World.frozen?_setCell _ _ _ _).trans f0), (World.frozen?_setCell _ _ _ _).trans ((World.frozen?_setCell _ _ _ _).trans f1), (keptSet' (S := fun b => b = g) rfl).trans (keptSet' (S := fun b => b = g) rfl)⟩
end Go.Proofs.YtfdhbbhfilkafaaGreat
