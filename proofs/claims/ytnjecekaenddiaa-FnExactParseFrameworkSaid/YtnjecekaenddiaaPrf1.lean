/- Parsing frameworks: what stays true while places are appended. No condition but sizes. -/
import Derived.Test.YtnjecekaenddiaaPrf0
import Derived.OwnWalk
namespace Go.Proofs.Ytnjecekaenddiaa
open Go.RowKit
set_option maxRecDepth 100000
set_option linter.unusedVariables false
set_option linter.unusedSimpArgs false

structure StF (W w1 : World) (g0 lo x2 g2 : Nat) (pg : Int) (vb vp : Value) (bars : List BarT) (ps : List PlaceT) (w : World) : Prop where
  bx : BoxT w g2 pg vb vp
  op : OwnPlaces w x2 vp ps
  ne : ∀ b, vp.ownBlock = some b → b ≠ g2
  hb : HBars w lo x2 vb bars
  hz : Zer3' w g0
  b2 : Below lo w1 w
  B : Below g0 W w
  o1 : g0 < lo ∧ lo ≤ x2 ∧ x2 < g2
theorem StF.below {W w1 : World} {g0 lo x2 g2 : Nat} {pg : Int} {vb vp : Value} {bars : List BarT} {ps : List PlaceT} {w w' : World} (h : StF W w1 g0 lo x2 g2 pg vb vp bars ps w) (b : Below w.heap.size w w') : StF W w1 g0 lo x2 g2 pg vb vp bars ps w' where
  bx := h.bx.below b
  op := h.op.below b
  ne := h.ne
  hb := h.hb.below b
  hz := h.hz.below b
  b2 := h.b2.trans (b.mono (by have := h.bx.1; have := h.o1; omega))
  B := h.B.trans (b.mono (by have := h.bx.1; have := h.o1; omega))
  o1 := h.o1
theorem StF.szx {W w1 : World} {g0 lo x2 g2 : Nat} {pg : Int} {vb vp : Value} {bars : List BarT} {ps : List PlaceT} {w : World} (h : StF W w1 g0 lo x2 g2 pg vb vp bars ps w) : x2 ≤ w.heap.size := by have := h.bx.1; have := h.o1; omega
theorem StF.app {W w1 : World} {g0 lo x2 g2 : Nat} {pg : Int} {vb vp v' : Value} {bars : List BarT} {ps : List PlaceT} {x : PlaceT} {w w8 : World} (h : StF W w1 g0 lo x2 g2 pg vb vp bars ps w) (k : Kept (fun k => some k = vp.ownBlock) w w8) (h8 : OwnPlaces w8 x2 v' (ps ++ [x])) (a8 : v'.ownBlock = vp.ownBlock ∨ v'.ownBlock = some w.heap.size) :
    BoxT w8 g2 pg vb vp ∧ StF W w1 g0 lo x2 g2 pg vb v' bars (ps ++ [x]) (w8.setCell ⟨g2, 2, none⟩ v') := by
  have hv := h.bx.1
  have ho := h.o1
  have hne9 := neAt a8 h.ne hv
  have bx8 := h.bx.kept k (fun e => h.ne _ e.symm rfl)
  have K0 : Below lo w w8 := k.setOwn h.op (by omega) (by omega)
  have K1 : Below g0 w w8 := k.setOwn h.op (by omega) (by omega)
  have kS : Kept (fun b => b = g2) w8 (w8.setCell ⟨g2, 2, none⟩ v') := keptSet' rfl
  refine ⟨bx8, ⟨bx8.set2, h8.setAt hne9 _, hne9, ?_, ?_, (h.b2.trans K0).setCell (by show lo ≤ g2; omega) _, (h.B.trans K1).setCell (by show g0 ≤ g2; omega) _, ho⟩⟩
  · refine (h.hb.kept k (fun j h1 h2 e => ?_)).kept kS (fun j h1 h2 h3 => by omega)
    have := (h.op.lt _ e.symm).1; omega
  · refine (h.hz.kept k (fun e => ?_)).kept kS (by omega)
    have := (h.op.lt _ e.symm).1; omega
theorem newCells2 (w : World) (a b : Value) (ty : TypeId) : (w.alloc (.cells #[a, b] ty)).cell? ⟨w.heap.size, 0, none⟩ = some a ∧ (w.alloc (.cells #[a, b] ty)).cell? ⟨w.heap.size, 1, none⟩ = some b := ⟨by simp [World.cell?_alloc_new], by simp [World.cell?_alloc_new]⟩
theorem belAlloc (w : World) (o : Obj) : Below w.heap.size w (w.alloc o) := (Below.refl _ _).alloc (Nat.le_refl _) _
/-- 'append(s, x)' of one place, the value spelt out -/
theorem stepPl2 {w : World} {ops : Array Oper} {o : Oper} {a : Act} {K : Act → World → Prop} {Q : Exit → Act → World → Prop} {E : Prop} (hg : o.guard = none) (s x : Operand)
    (ho : o.op = .call { callee := .builtin .append, args := #[s, x], argTypes := #[40, 40] }) {base : Nat} {v : Value} {l : List PlaceT} (hs : a.eval s = v) (hown : OwnPlaces w base v l)
    (y1 y2 : Int) (g : Nat) (hx : a.eval x = .slice (some ⟨g, 0, none⟩) 1 1) (hc0 : w.cell? ⟨g, 0, none⟩ = some (.int .i64 y1)) (hc1 : w.cell? ⟨g, 1, none⟩ = some (.int .i64 y2)) (hl : l.length < 1099511627776) (hbase : base ≤ w.heap.size)
    (hK : ∀ a9 c9 w', OwnPlaces w' base (.slice a9 (l.length + 1) c9) (l ++ [(y1, y2)]) → Kept (fun k => some k = v.ownBlock) w w' → ((Value.slice a9 (l.length + 1) c9).ownBlock = v.ownBlock ∨ (Value.slice a9 (l.length + 1) c9).ownBlock = some w.heap.size) → K (a.put o.dst (.slice a9 (l.length + 1) c9)) w') :
    if Region.wanted o (yielded ops a.tmps) = true then Oper.wp Try.prog o a w K Q else E := by
  refine stepPl1 hg s x ho hs hown y1 y2 g hx hc0 hc1 hl hbase ?_
  intro v' w' h1 h2 h3
  obtain ⟨a9, c9, rfl, _⟩ := h1.form
  have e9 : (l ++ [(y1, y2)]).length = l.length + 1 := by simp
  rw [e9] at h1 h3 ⊢
  exact hK _ _ _ h1 h2 h3
end Go.Proofs.Ytnjecekaenddiaa
