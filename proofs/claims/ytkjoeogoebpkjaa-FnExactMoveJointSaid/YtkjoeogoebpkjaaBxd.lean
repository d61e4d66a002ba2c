/- A framework as a result, boxed in a region that draws its order: what the region leaves. No condition. -/
import Derived.Test.YtkjoeogoebpkjaaMir
import Derived.Test.YtkjoeogoebpkjaaBox
import Derived.Test.YtkjoeogoebpkjaaFwH
import Derived.Test.YtkjoeogoebpkjaaFwM
namespace Go.Proofs.Ytkjoeogoebpkjaa
open Go.RowKit Gr
set_option maxRecDepth 100000
set_option linter.unusedVariables false
set_option linter.unusedSimpArgs false
theorem Zer3.drew {w : World} {g : Nat} (h : Zer3 w g) : Zer3 w.drew g := h
def set3 (w : World) (g : Nat) (p : Int) (ab : Option Addr) (n cb : Nat) (ap : Option Addr) (t cp : Nat) : World := ((w.setCell ⟨g, 0, none⟩ (.int .i64 p)).setCell ⟨g, 1, none⟩ (.slice ab n cb)).setCell ⟨g, 2, none⟩ (.slice ap t cp)
/-- behind the region: the result's box and what it owns -/
def CutFw (W0 : World) (p : Int) (l : List BarT) (q : List PlaceT) (s : Value) (wx : World) : Prop :=
  ∃ g ab cb ap cp lo hi, s = .pointer (some ⟨g, 0, none⟩) ∧ BoxFw wx g p ab l.length cb ap q.length cp ∧ HFw wx lo hi (.agg #[.int .i64 p, .slice ab l.length cb, .slice ap q.length cp]) (p, l, q) ∧ (g < lo ∨ hi ≤ g) ∧ W0.heap.size ≤ lo ∧ lo ≤ hi ∧ hi ≤ wx.heap.size ∧ W0.heap.size ≤ g ∧ Below W0.heap.size W0 wx
theorem boxS {w : World} {g : Nat} {p : Int} {ab ap : Option Addr} {n cb t cp : Nat} (h : Zer3 w g) : BoxFw (((w.setCell ⟨g, 0, none⟩ (.int .i64 p)).setCell ⟨g, 1, none⟩ (.slice ab n cb)).setCell ⟨g, 2, none⟩ (.slice ap t cp)) g p ab n cb ap t cp := by
  obtain ⟨⟨a, b, c, c0, c1, c2⟩, ⟨f0, f1, f2⟩, hz⟩ := h
  have o01 : (⟨g, 0, none⟩ : Addr) ≠ ⟨g, 1, none⟩ := by simp
  have o02 : (⟨g, 0, none⟩ : Addr) ≠ ⟨g, 2, none⟩ := by simp
  have o12 : (⟨g, 1, none⟩ : Addr) ≠ ⟨g, 2, none⟩ := by simp
  exact ⟨by simpa using hz,
    (World.cell?_setCell_other _ _ _ _ o02.symm).trans ((World.cell?_setCell_other _ _ _ _ o01.symm).trans (World.cell?_setCell_same _ _ _ c0)),
    (World.cell?_setCell_other _ _ _ _ o12.symm).trans (World.cell?_setCell_same _ _ _ ((World.cell?_setCell_other _ _ _ _ o01).trans c1)),
    World.cell?_setCell_same _ _ _ ((World.cell?_setCell_other _ _ _ _ o12).trans ((World.cell?_setCell_other _ _ _ _ o02).trans c2))⟩
theorem cutA {W0 w : World} {g lo hi : Nat} {p : Int} {l : List BarT} {q : List PlaceT} {ab ap : Option Addr} {cb cp : Nat} (hz : Zer3 w g)
    (h : HFw w lo hi (.agg #[.int .i64 p, .slice ab l.length cb, .slice ap q.length cp]) (p, l, q)) (hs : g < lo ∨ hi ≤ g) (h1 : W0.heap.size ≤ lo) (h2 : lo ≤ hi) (h3 : hi ≤ w.heap.size) (h4 : W0.heap.size ≤ g) (hb : Below W0.heap.size W0 w) :
    CutFw W0 p l q (.pointer (some ⟨g, 0, none⟩)) (((w.setCell ⟨g, 0, none⟩ (.int .i64 p)).setCell ⟨g, 1, none⟩ (.slice ab l.length cb)).setCell ⟨g, 2, none⟩ (.slice ap q.length cp)) := by
  refine ⟨g, ab, cb, ap, cp, lo, hi, rfl, boxS hz, ?_, hs, h1, h2, by simpa using h3, h4, ((hb.setCell (by simp; omega) _).setCell (by simp; omega) _).setCell (by simp; omega) _⟩
  refine h.kept (((keptSet (S := fun b => b = g) rfl).trans (keptSet (S := fun b => b = g) rfl)).trans (keptSet (S := fun b => b = g) rfl)) fun k h5 h6 h7 => ?_
  omega
theorem cutB {W0 w : World} {lo hi : Nat} {p : Int} {l : List BarT} {q : List PlaceT} {ab ap : Option Addr} {cb cp : Nat} (ty : TypeId)
    (h : HFw w lo hi (.agg #[.int .i64 p, .slice ab l.length cb, .slice ap q.length cp]) (p, l, q)) (h1 : W0.heap.size ≤ lo) (h2 : lo ≤ hi) (h3 : hi ≤ w.heap.size) (hb : Below W0.heap.size W0 w) :
    CutFw W0 p l q (.pointer (some ⟨w.heap.size, 0, none⟩)) (w.alloc (.cells #[.int .i64 p, .slice ab l.length cb, .slice ap q.length cp] ty)) := by
  have ba : Below w.heap.size w (w.alloc (.cells #[.int .i64 p, .slice ab l.length cb, .slice ap q.length cp] ty)) := (Below.refl _ _).alloc (Nat.le_refl _) _
  exact ⟨w.heap.size, ab, cb, ap, cp, lo, hi, rfl, BoxFw.at rfl, h.below ba, .inr h3, h1, h2, by simp; omega, hb.size, hb.step ba⟩
theorem cutC {W0 w : World} {lo hi : Nat} {p : Int} {l : List BarT} {q : List PlaceT} {ab ap : Option Addr} {cb cp : Nat} (ty : TypeId)
    (h : HFw w lo hi (.agg #[.int .i64 p, .slice ab l.length cb, .slice ap q.length cp]) (p, l, q)) (h1 : W0.heap.size ≤ lo) (h2 : lo ≤ hi) (h3 : hi ≤ w.heap.size) (hb : Below W0.heap.size W0 w) :
    CutFw W0 p l q (.pointer (some ⟨w.heap.size, 0, none⟩)) ((((w.alloc (.cells #[.int .i64 0, .slice none 0 0, .slice none 0 0] ty)).setCell ⟨w.heap.size, 0, none⟩ (.int .i64 p)).setCell ⟨w.heap.size, 1, none⟩ (.slice ab l.length cb)).setCell ⟨w.heap.size, 2, none⟩ (.slice ap q.length cp)) := by
  have ba : Below w.heap.size w (w.alloc (.cells #[.int .i64 0, .slice none 0 0, .slice none 0 0] ty)) := (Below.refl _ _).alloc (Nat.le_refl _) _
  exact cutA (Zer3.at w ty) (h.below ba) (.inr h3) h1 h2 (by simp; omega) hb.size (hb.step ba)
end Go.Proofs.Ytkjoeogoebpkjaa
