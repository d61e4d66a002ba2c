/- Values that lie boxed in cells of their own: a framework, a place. No condition. -/
import Derived.Test.YtfdhbbhfilkafaaGreatFw
namespace Go.Proofs.YtfdhbbhfilkafaaGreat
open Go.RowKit
set_option maxRecDepth 100000
set_option linter.unusedVariables false
set_option linter.unusedSimpArgs false

/-- the three cells of a framework that lies boxed at g -/
def BoxFw (w : World) (g : Nat) (p : Int) (a : Option Addr) (n cap : Nat) (c : Option Addr) (t capc : Nat) : Prop :=
  g < w.heap.size ∧ w.cell? ⟨g, 0, none⟩ = some (.int .i64 p) ∧ w.cell? ⟨g, 1, none⟩ = some (.slice a n cap) ∧ w.cell? ⟨g, 2, none⟩ = some (.slice c t capc)
section
variable {w w' : World} {g : Nat} {p : Int} {a : Option Addr} {n cap : Nat} {c : Option Addr} {t capc ty : Nat}
theorem BoxFw.below (h : BoxFw w g p a n cap c t capc) (hb : Below w.heap.size w w') : BoxFw w' g p a n cap c t capc :=
  ⟨Nat.lt_of_lt_of_le h.1 hb.size, ((bcell hb).1 _ _ h.1).trans h.2.1, ((bcell hb).1 _ _ h.1).trans h.2.2.1, ((bcell hb).1 _ _ h.1).trans h.2.2.2⟩
theorem BoxFw.kept {S : Nat → Prop} (h : BoxFw w g p a n cap c t capc) (hk : Kept S w w') (hs : ¬ S g) : BoxFw w' g p a n cap c t capc := by
  have hb : ∀ o, w'.cell? ⟨g, o, none⟩ = w.cell? ⟨g, o, none⟩ := fun o => by simp only [World.cell?, hk.block g h.1 hs]
  exact ⟨Nat.lt_of_lt_of_le h.1 hk.size, (hb _).trans h.2.1, (hb _).trans h.2.2.1, (hb _).trans h.2.2.2⟩
theorem BoxFw.at (hg : g = w.heap.size) : BoxFw (w.alloc (.cells #[.int .i64 p, .slice a n cap, .slice c t capc] ty)) g p a n cap c t capc := by
  subst hg
  exact ⟨by simp, by simp [World.cell?_alloc_new], by simp [World.cell?_alloc_new], by simp [World.cell?_alloc_new]⟩
theorem BoxFw.c0 (h : BoxFw w g p a n cap c t capc) : w.cell? ⟨g, 0, none⟩ = some (.int .i64 p) := h.2.1
theorem BoxFw.c1 (h : BoxFw w g p a n cap c t capc) : w.cell? ⟨g, 1, none⟩ = some (.slice a n cap) := h.2.2.1
theorem BoxFw.c2 (h : BoxFw w g p a n cap c t capc) : w.cell? ⟨g, 2, none⟩ = some (.slice c t capc) := h.2.2.2
end
def BoxPl (w : World) (g : Nat) (x y : Int) : Prop := g < w.heap.size ∧ w.cell? ⟨g, 0, none⟩ = some (.int .i64 x) ∧ w.cell? ⟨g, 1, none⟩ = some (.int .i64 y)
section
variable {w w' : World} {g : Nat} {x y : Int} {ty : Nat}
theorem BoxPl.below (h : BoxPl w g x y) (hb : Below w.heap.size w w') : BoxPl w' g x y :=
  ⟨Nat.lt_of_lt_of_le h.1 hb.size, ((bcell hb).1 _ _ h.1).trans h.2.1, ((bcell hb).1 _ _ h.1).trans h.2.2⟩
theorem BoxPl.kept {S : Nat → Prop} (h : BoxPl w g x y) (hk : Kept S w w') (hs : ¬ S g) : BoxPl w' g x y := by
  have hb : ∀ o, w'.cell? ⟨g, o, none⟩ = w.cell? ⟨g, o, none⟩ := fun o => by simp only [World.cell?, hk.block g h.1 hs]
  exact ⟨Nat.lt_of_lt_of_le h.1 hk.size, (hb _).trans h.2.1, (hb _).trans h.2.2⟩
theorem BoxPl.at (hg : g = w.heap.size) : BoxPl (w.alloc (.cells #[.int .i64 x, .int .i64 y] ty)) g x y := by
  subst hg
  exact ⟨by simp, by simp [World.cell?_alloc_new], by simp [World.cell?_alloc_new]⟩
theorem BoxPl.c0 (h : BoxPl w g x y) : w.cell? ⟨g, 0, none⟩ = some (.int .i64 x) := h.2.1
theorem BoxPl.c1 (h : BoxPl w g x y) : w.cell? ⟨g, 1, none⟩ = some (.int .i64 y) := h.2.2
end
end Go.Proofs.YtfdhbbhfilkafaaGreat
