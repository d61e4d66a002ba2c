/- OnlyBars of the program. No condition but sizes. -/
import Derived.Test.YtfbmpkdjhhcnpaaMoP09
import Derived.Deep.RegionLaw
namespace Go.Proofs.Ytfbmpkdjhhcnpaa
open Go.RowKit
set_option maxRecDepth 100000
set_option linter.unusedVariables false
set_option linter.unusedSimpArgs false

/-- 'append(s, x)' of one bar -/
theorem appBar1At {w : World} {ops : Array Oper} {rest : List Oper} {o : Oper} {a : Act} {Q : Exit → Act → World → Prop} (hg : o.guard = none) (s x : Operand)
    (ho : o.op = .call { callee := .builtin .append, args := #[s, x], argTypes := #[24, 24] }) {base : Nat} {v : Value} {l : List BarT} (hs : a.eval s = v) (hown : OwnBars w base v l) (y1 y2 : Int)
    (hx : a.eval x = .slice (some ⟨w.heap.size, 0, none⟩) 1 1) (hl : l.length < 1099511627776) (hbase : base ≤ w.heap.size)
    (hK : ∀ v' w', OwnBars w' base v' (l ++ [(y1, y2)]) → Kept (fun k => some k = v.ownBlock) w w' → (v'.ownBlock = v.ownBlock ∨ ∀ b, v'.ownBlock = some b → w.heap.size ≤ b) → wpList Try.prog ops Q rest (a.put o.dst v') w') :
    wpList Try.prog ops Q (o :: rest) a (w.alloc (.cells #[.int .i64 y1, .int .i64 y2] 56)) := by
  obtain ⟨i0, hi, hz0, hz1, hz2⟩ := info_parts infoBar
  refine wpList_append_whole _ hg s x 24 ho base 56 i0 _ 2 16 Try.underlying24 hi hz0 hz1 hz2 rfl (by decide) v l.length (l.flatMap cellsBar) hs (World.ownsRow.alloc hown _) (some ⟨w.heap.size, 0, none⟩) 1 1 [.int .i64 y1, .int .i64 y2] hx rfl ?_ (by intro u hu; simp at hu; rcases hu with rfl | rfl <;> rfl) (by unfold maxLen; omega) (by omega) (by simp; omega) ?_
  · intro j u hu
    have hj : j < 2 := by have := lt_of_getElem? hu; simpa using this
    obtain rfl | rfl : j = 0 ∨ j = 1 := by omega
    · simp at hu; subst hu; exact ⟨w.heap.size, 0, rfl, by simp [World.cell?_alloc_new]⟩
    · simp at hu; subst hu; exact ⟨w.heap.size, 0, rfl, by simp [World.cell?_alloc_new]⟩
  · intro v' w' h1 h2 h3
    refine hK v' w' (by unfold OwnBars; simpa [cellsBar] using h1) ((Kept.of_below ((Below.refl _ _).alloc (Nat.le_refl _) _)).trans ⟨h2.os, h2.tape, h2.output, h2.size, fun k hk hs => h2.block k hk hs⟩) ?_
    rcases h3 with h3 | h3
    · exact .inl h3
    · right
      intro b hb
      rw [h3] at hb
      simp at hb
      omega
theorem cellSetNe {w : World} {b c o k : Nat} {v : Value} (h : b ≠ c) : (w.setCell ⟨b, o, none⟩ v).cell? ⟨c, k, none⟩ = w.cell? ⟨c, k, none⟩ := by
  simp [World.cell?, World.setCell, Array.getElem?_modify, h]
theorem keptSet' {S : Nat → Prop} {W : World} {b j : Nat} {x : Value} (hS : S b) : Kept S W (W.setCell ⟨b, j, none⟩ x) :=
  ⟨rfl, rfl, rfl, by simp, fun k hk hs => by
    have : k ≠ b := fun e => hs (e ▸ hS)
    simp [World.setCell, Array.getElem?_modify, Ne.symm this]⟩
/-- the cells of a graph that stands for a result -/
def Zer2 (w : World) (g : Nat) : Prop := (∃ a b c, w.cell? ⟨g, 0, none⟩ = some (.int .i64 a) ∧ w.cell? ⟨g, 1, none⟩ = some (.slice none b c)) ∧ (w.frozen? ⟨g, 0, none⟩ = false ∧ w.frozen? ⟨g, 1, none⟩ = false) ∧ g < w.heap.size
theorem Zer2.at (w : World) (ty : TypeId) : Zer2 (w.alloc (.cells #[.int .i64 0, .slice none 0 0] ty)) w.heap.size :=
  ⟨⟨0, 0, 0, by simp [World.cell?_alloc_new], by simp [World.cell?_alloc_new]⟩, ⟨by simp [World.frozen?_alloc_new], by simp [World.frozen?_alloc_new]⟩, by simp⟩
theorem Zer2.kept {S : Nat → Prop} {w w' : World} {g : Nat} (h : Zer2 w g) (hk : Kept S w w') (hs : ¬ S g) : Zer2 w' g := by
  obtain ⟨⟨a, b, c, c0, c1⟩, ⟨f0, f1⟩, hz⟩ := h
  exact ⟨⟨a, b, c, (hk.cell hz hs).trans c0, (hk.cell hz hs).trans c1⟩, ⟨(hk.frozen hz hs).trans f0, (hk.frozen hz hs).trans f1⟩, Nat.lt_of_lt_of_le hz hk.size⟩
theorem Zer2.below {w w' : World} {g : Nat} (h : Zer2 w g) (hb : Below w.heap.size w w') : Zer2 w' g := h.kept (Kept.of_below (S := fun _ => False) hb) id
theorem Zer2.belowAt {B : Nat} {w w' : World} {g : Nat} (h : Zer2 w g) (hb : Below B w w') (hg : g < B) : Zer2 w' g := by
  obtain ⟨⟨a, b, c, c0, c1⟩, ⟨f0, f1⟩, hz⟩ := h
  exact ⟨⟨a, b, c, (hb.cell (p := ⟨g, 0, none⟩) hg).trans c0, (hb.cell (p := ⟨g, 1, none⟩) hg).trans c1⟩, ⟨(hb.frozen (p := ⟨g, 0, none⟩) hg).trans f0, (hb.frozen (p := ⟨g, 1, none⟩) hg).trans f1⟩, Nat.lt_of_lt_of_le hz hb.size⟩
/-- a graph laid into the place of the result -/
theorem laid2 {W w : World} {p : Int} {ab : Option Addr} {cb lo g : Nat} {l : List BarT} (hb : OwnBars w lo (.slice ab l.length cb) l) (hg : W.heap.size ≤ g) (hgl : g < lo) (hlo : W.heap.size ≤ lo) (hbe : Below W.heap.size W w) :
    OwnGraph ((w.setCell ⟨g, 0, none⟩ (.int .i64 p)).setCell ⟨g, 1, none⟩ (.slice ab l.length cb)) W.heap.size (.agg #[.int .i64 p, .slice ab l.length cb]) (p, l)
    ∧ Below W.heap.size W ((w.setCell ⟨g, 0, none⟩ (.int .i64 p)).setCell ⟨g, 1, none⟩ (.slice ab l.length cb)) :=
  ⟨⟨.slice ab l.length cb, ⟨ab, cb, rfl, rfl⟩, ownsRow_base ((hb.set (by simp; omega) _).set (by simp; omega) _) hlo⟩, (hbe.setCell (by simp; omega) _).setCell (by simp; omega) _⟩

def keepTo (l : List BarT) (s : List Int) : Nat → List BarT
  | 0 => []
  | k + 1 => keepTo l s k ++ (if (k : Int) ∈ s then (l[k]?).toList else [])
def keepL (l : List BarT) (s : List Int) : List BarT := keepTo l s l.length
theorem keepTo_len (l : List BarT) (s : List Int) (k : Nat) : (keepTo l s k).length ≤ k := by
  induction k with
  | zero => simp [keepTo]
  | succ k ih =>
    unfold keepTo
    rw [List.length_append]
    have : (if (k : Int) ∈ s then (l[k]?).toList else []).length ≤ 1 := by
      split
      · cases l[k]? <;> simp
      · simp
    omega

end Go.Proofs.Ytfbmpkdjhhcnpaa

