/- Parsing graphs: the plain law, boxes, appends in regions. No condition but sizes. -/
import Derived.Test.YtnjecekaenddiaaPri
import Derived.Test.YtnjecekaenddiaaOnl
import Derived.Deep.RegionLawGrows
namespace Go.Proofs.Ytnjecekaenddiaa
open Go.RowKit
set_option maxRecDepth 100000
set_option linter.unusedVariables false
set_option linter.unusedSimpArgs false

/-- 'append(s, x)' of one bar, as a step of a region that draws -/
theorem stepBar1 {w : World} {ops : Array Oper} {o : Oper} {a : Act} {K : Act → World → Prop} {Q : Exit → Act → World → Prop} {E : Prop} (hg : o.guard = none) (s x : Operand)
    (ho : o.op = .call { callee := .builtin .append, args := #[s, x], argTypes := #[37, 37] }) {base : Nat} {v : Value} {l : List BarT} (hs : a.eval s = v) (hown : OwnBars w base v l)
    (y1 y2 : Int) (g : Nat) (hx : a.eval x = .slice (some ⟨g, 0, none⟩) 1 1) (hc0 : w.cell? ⟨g, 0, none⟩ = some (.int .i64 y1)) (hc1 : w.cell? ⟨g, 1, none⟩ = some (.int .i64 y2)) (hl : l.length < 1099511627776) (hbase : base ≤ w.heap.size)
    (hK : ∀ v' w', OwnBars w' base v' (l ++ [(y1, y2)]) → Kept (fun k => some k = v.ownBlock) w w' → (v'.ownBlock = v.ownBlock ∨ v'.ownBlock = some w.heap.size) → K (a.put o.dst v') w') :
    if Region.wanted o (yielded ops a.tmps) = true then Oper.wp Try.prog o a w K Q else E := by
  obtain ⟨i0, hi, hz0, hz1, hz2⟩ := info_parts infoBar
  refine step_append_whole _ hg s x 37 ho base 87 i0 _ 2 16 Try.underlying37 hi hz0 hz1 hz2 rfl (by decide) v l.length (l.flatMap cellsBar) hs hown (some ⟨g, 0, none⟩) 1 1 [.int .i64 y1, .int .i64 y2] hx rfl ?_ (by intro u hu; simp at hu; rcases hu with rfl | rfl <;> rfl) (by unfold maxLen; omega) (by omega) hbase ?_
  · intro j u hu
    have hj : j < 2 := by have := lt_of_getElem? hu; simpa using this
    obtain rfl | rfl : j = 0 ∨ j = 1 := by omega
    · simp at hu; subst hu; exact ⟨g, 0, rfl, hc0⟩
    · simp at hu; subst hu; exact ⟨g, 0, rfl, hc1⟩
  · intro v' w' h1 h2 h3
    refine hK v' w' ?_ (Kept.of_grown h2) h3
    unfold OwnBars
    simpa [cellsBar] using h1
/-- .. of one place -/
theorem stepPl1 {w : World} {ops : Array Oper} {o : Oper} {a : Act} {K : Act → World → Prop} {Q : Exit → Act → World → Prop} {E : Prop} (hg : o.guard = none) (s x : Operand)
    (ho : o.op = .call { callee := .builtin .append, args := #[s, x], argTypes := #[40, 40] }) {base : Nat} {v : Value} {l : List PlaceT} (hs : a.eval s = v) (hown : OwnPlaces w base v l)
    (y1 y2 : Int) (g : Nat) (hx : a.eval x = .slice (some ⟨g, 0, none⟩) 1 1) (hc0 : w.cell? ⟨g, 0, none⟩ = some (.int .i64 y1)) (hc1 : w.cell? ⟨g, 1, none⟩ = some (.int .i64 y2)) (hl : l.length < 1099511627776) (hbase : base ≤ w.heap.size)
    (hK : ∀ v' w', OwnPlaces w' base v' (l ++ [(y1, y2)]) → Kept (fun k => some k = v.ownBlock) w w' → (v'.ownBlock = v.ownBlock ∨ v'.ownBlock = some w.heap.size) → K (a.put o.dst v') w') :
    if Region.wanted o (yielded ops a.tmps) = true then Oper.wp Try.prog o a w K Q else E := by
  obtain ⟨i0, hi, hz0, hz1, hz2⟩ := info_parts infoPlace
  refine step_append_whole _ hg s x 40 ho base 67 i0 _ 2 16 Try.underlying40 hi hz0 hz1 hz2 rfl (by decide) v l.length (l.flatMap cellsPlace) hs hown (some ⟨g, 0, none⟩) 1 1 [.int .i64 y1, .int .i64 y2] hx rfl ?_ (by intro u hu; simp at hu; rcases hu with rfl | rfl <;> rfl) (by unfold maxLen; omega) (by omega) hbase ?_
  · intro j u hu
    have hj : j < 2 := by have := lt_of_getElem? hu; simpa using this
    obtain rfl | rfl : j = 0 ∨ j = 1 := by omega
    · simp at hu; subst hu; exact ⟨g, 0, rfl, hc0⟩
    · simp at hu; subst hu; exact ⟨g, 0, rfl, hc1⟩
  · intro v' w' h1 h2 h3
    refine hK v' w' ?_ (Kept.of_grown h2) h3
    unfold OwnPlaces
    simpa [cellsPlace] using h1
/-- .. of one place, at a list of operations -/
theorem appPl1At {w : World} {ops : Array Oper} {rest : List Oper} {o : Oper} {a : Act} {Q : Exit → Act → World → Prop} (hg : o.guard = none) (s x : Operand)
    (ho : o.op = .call { callee := .builtin .append, args := #[s, x], argTypes := #[40, 40] }) {base : Nat} {v : Value} {l : List PlaceT} (hs : a.eval s = v) (hown : OwnPlaces w base v l) (y1 y2 : Int)
    (hx : a.eval x = .slice (some ⟨w.heap.size, 0, none⟩) 1 1) (hl : l.length < 1099511627776) (hbase : base ≤ w.heap.size)
    (hK : ∀ v' w', OwnPlaces w' base v' (l ++ [(y1, y2)]) → Kept (fun k => some k = v.ownBlock) w w' → (v'.ownBlock = v.ownBlock ∨ ∀ b, v'.ownBlock = some b → w.heap.size ≤ b) → wpList Try.prog ops Q rest (a.put o.dst v') w') :
    wpList Try.prog ops Q (o :: rest) a (w.alloc (.cells #[.int .i64 y1, .int .i64 y2] 67)) := by
  obtain ⟨i0, hi, hz0, hz1, hz2⟩ := info_parts infoPlace
  refine wpList_append_whole _ hg s x 40 ho base 67 i0 _ 2 16 Try.underlying40 hi hz0 hz1 hz2 rfl (by decide) v l.length (l.flatMap cellsPlace) hs (World.ownsRow.alloc hown _) (some ⟨w.heap.size, 0, none⟩) 1 1 [.int .i64 y1, .int .i64 y2] hx rfl ?_ (by intro u hu; simp at hu; rcases hu with rfl | rfl <;> rfl) (by unfold maxLen; omega) (by omega) (by simp; omega) ?_
  · intro j u hu
    have hj : j < 2 := by have := lt_of_getElem? hu; simpa using this
    obtain rfl | rfl : j = 0 ∨ j = 1 := by omega
    · simp at hu; subst hu; exact ⟨w.heap.size, 0, rfl, by simp [World.cell?_alloc_new]⟩
    · simp at hu; subst hu; exact ⟨w.heap.size, 0, rfl, by simp [World.cell?_alloc_new]⟩
  · intro v' w' h1 h2 h3
    refine hK v' w' (by unfold OwnPlaces; simpa [cellsPlace] using h1) ((Kept.of_below ((Below.refl _ _).alloc (Nat.le_refl _) _)).trans ⟨h2.os, h2.tape, h2.output, h2.size, fun k hk hs => h2.block k hk hs⟩) ?_
    rcases h3 with h3 | h3
    · exact .inl h3
    · right
      intro b hb
      rw [h3] at hb
      simp at hb
      omega
/-- a graph boxed at g, its two cells not frozen -/
def BoxG (w : World) (g : Nat) (p : Int) (vb : Value) : Prop := g < w.heap.size ∧ (w.cell? ⟨g, 0, none⟩ = some (.int .i64 p) ∧ w.cell? ⟨g, 1, none⟩ = some vb) ∧ (w.frozen? ⟨g, 0, none⟩ = false ∧ w.frozen? ⟨g, 1, none⟩ = false)
theorem BoxG.kept {S : Nat → Prop} {w w' : World} {g : Nat} {p : Int} {vb : Value} (h : BoxG w g p vb) (hk : Kept S w w') (hs : ¬ S g) : BoxG w' g p vb := by
  obtain ⟨hz, ⟨c0, c1⟩, f0, f1⟩ := h
  exact ⟨Nat.lt_of_lt_of_le hz hk.size, ⟨(hk.cell hz hs).trans c0, (hk.cell hz hs).trans c1⟩, (hk.frozen hz hs).trans f0, (hk.frozen hz hs).trans f1⟩
theorem BoxG.below {w w' : World} {g : Nat} {p : Int} {vb : Value} (h : BoxG w g p vb) (hb : Below w.heap.size w w') : BoxG w' g p vb := h.kept (Kept.of_below (S := fun _ => False) hb) id
theorem BoxG.at {w : World} {g : Nat} {p : Int} {vb : Value} {ty : TypeId} (hg : g = w.heap.size) : BoxG (w.alloc (.cells #[.int .i64 p, vb] ty)) g p vb := by
  subst hg
  exact ⟨by simp, ⟨by simp [World.cell?_alloc_new], by simp [World.cell?_alloc_new]⟩, by simp [World.frozen?_alloc_new], by simp [World.frozen?_alloc_new]⟩
theorem BoxG.set0 {w : World} {g : Nat} {p n : Int} {vb : Value} (h : BoxG w g p vb) : BoxG (w.setCell ⟨g, 0, none⟩ (.int .i64 n)) g n vb := by
  obtain ⟨hz, ⟨c0, c1⟩, f0, f1⟩ := h
  exact ⟨by simpa using hz, ⟨World.cell?_setCell_same _ _ _ c0, (World.cell?_setCell_other _ _ _ _ (by simp)).trans c1⟩, by rw [World.frozen?_setCell]; exact f0, by rw [World.frozen?_setCell]; exact f1⟩
theorem BoxG.set1 {w : World} {g : Nat} {p : Int} {vb vn : Value} (h : BoxG w g p vb) : BoxG (w.setCell ⟨g, 1, none⟩ vn) g p vn := by
  obtain ⟨hz, ⟨c0, c1⟩, f0, f1⟩ := h
  exact ⟨by simpa using hz, ⟨(World.cell?_setCell_other _ _ _ _ (by simp)).trans c0, World.cell?_setCell_same _ _ _ c1⟩, by rw [World.frozen?_setCell]; exact f0, by rw [World.frozen?_setCell]; exact f1⟩
theorem OwnBars.setAt {W : World} {base : Nat} {v : Value} {l : List BarT} (h : OwnBars W base v l) {g j : Nat} (hne : ∀ b, v.ownBlock = some b → b ≠ g) (u : Value) : OwnBars (W.setCell ⟨g, j, none⟩ u) base v l :=
  (keptSet' (S := fun b => b = g) (x := u) (j := j) rfl).ownsRow h fun k hk hS => hne k hk hS
theorem OwnPlaces.setAt {W : World} {base : Nat} {v : Value} {l : List PlaceT} (h : OwnPlaces W base v l) {g j : Nat} (hne : ∀ b, v.ownBlock = some b → b ≠ g) (u : Value) : OwnPlaces (W.setCell ⟨g, j, none⟩ u) base v l :=
  (keptSet' (S := fun b => b = g) (x := u) (j := j) rfl).ownsRow h fun k hk hS => hne k hk hS
theorem neAt {v v' : Value} {g s : Nat} (hA : v'.ownBlock = v.ownBlock ∨ v'.ownBlock = some s) (hne : ∀ b, v.ownBlock = some b → b ≠ g) (hs : g < s) : ∀ b, v'.ownBlock = some b → b ≠ g := by
  intro b hb
  rcases hA with h | h
  · exact hne b (by rw [← h]; exact hb)
  · rw [h] at hb; simp at hb; omega
theorem neAt2 {v v' : Value} {g s : Nat} (hA : v'.ownBlock = v.ownBlock ∨ ∀ b, v'.ownBlock = some b → s ≤ b) (hne : ∀ b, v.ownBlock = some b → b ≠ g) (hs : g < s) : ∀ b, v'.ownBlock = some b → b ≠ g := by
  intro b hb
  rcases hA with h | h
  · exact hne b (by rw [← h]; exact hb)
  · have := h b hb; omega
/-- what a parsed graph and the word on it answer to -/
def OkPG (l : List UInt8) (g : GraphT) (b : Bool) : Prop := g.2.length ≤ l.count 32 ∧ ∀ g0, isGraphB g0 = true → l = fmtG g0 → b = true ∧ g = g0
def RetPG (W : World) (l : List UInt8) (e : Ending) (w' : World) : Prop := ∃ v g b, e = .returned (.tuple #[v, .bool b]) ∧ OwnGraph w' W.heap.size v g ∧ OkPG l g b ∧ Below W.heap.size W w'
theorem RetPG.mk {W : World} {l : List UInt8} {e : Ending} {w' : World} {v : Value} {g : GraphT} {b : Bool} (h : e = .returned (.tuple #[v, .bool b])) (h1 : OwnGraph w' W.heap.size v g) (h2 : OkPG l g b) (h3 : Below W.heap.size W w') : RetPG W l e w' := ⟨v, g, b, h, h1, h2, h3⟩
theorem OkPG.no {l : List UInt8} (h : ∀ g0, isGraphB g0 = true → l = fmtG g0 → False) : OkPG l (0, []) false := ⟨Nat.zero_le _, fun g0 h1 h2 => (h g0 h1 h2).elim⟩
theorem fmtI_pos {x : Int} (h0 : 0 ≤ x) (h1 : x < 10) : (fmtI x).length = 1 := fmtI_one h0 h1
theorem pg_head {l t0 : List UInt8} (h0 : (cutL 32 l)[0]? = some t0) {g0 : GraphT} (hv : isGraphB g0 = true) (hl : l = fmtG g0) : t0.length = 2 ∧ t0.take (t0.length - 1) = fmtI g0.1 ∧ ∀ n, Nm (t0.take (t0.length - 1)) n → n = g0.1 := by
  obtain ⟨h1, h2⟩ := okG hv
  rw [hl, fmtG_cut hv] at h0
  unfold wordsG at h0
  simp only [List.getElem?_cons_zero, Option.some.injEq] at h0
  subst h0
  have e := fmtI_one (x := g0.1) (by omega) h1.2
  have e2 : (fmtI g0.1 ++ [58]).length = 2 := by rw [List.length_append, e]; rfl
  have e3 : (fmtI g0.1 ++ [58]).take ((fmtI g0.1 ++ [58]).length - 1) = fmtI g0.1 := by
    rw [e2, List.take_append_of_le_length (by omega), List.take_of_length_le (by omega)]
  exact ⟨e2, e3, fun n hn => by rw [e3] at hn; exact hn.fmt (by omega) h1.2⟩
theorem pg_len {l : List UInt8} {g0 : GraphT} (hv : isGraphB g0 = true) (hl : l = fmtG g0) : (cutL 32 l).length = g0.2.length + 1 := by
  rw [hl, fmtG_cut hv]; simp [wordsG]
theorem pg_bar {l t : List UInt8} {k : Nat} (h : (cutL 32 l)[k + 1]? = some t) {g0 : GraphT} (hv : isGraphB g0 = true) (hl : l = fmtG g0) : ∃ x, g0.2[k]? = some x ∧ cutL 45 t = [fmtI x.1, fmtI x.2] ∧ 0 ≤ x.1 ∧ x.1 < 10 ∧ 0 ≤ x.2 ∧ x.2 < 10 := by
  obtain ⟨h1, h2⟩ := okG hv
  rw [hl, fmtG_cut hv] at h
  unfold wordsG at h
  rw [List.getElem?_cons_succ, List.getElem?_map] at h
  cases hx : g0.2[k]? with
  | none => rw [hx] at h; simp at h
  | some x =>
    rw [hx] at h
    simp only [Option.map_some, Option.some.injEq] at h
    subst h
    have hb := h2 x (List.mem_of_getElem? hx)
    exact ⟨x, rfl, tx_cut (by decide) hb, hb⟩
theorem pg_two {l t : List UInt8} {k : Nat} (h : (cutL 32 l)[k + 1]? = some t) {g0 : GraphT} (hv : isGraphB g0 = true) (hl : l = fmtG g0) : (cutL 45 t).length = 2 := by
  obtain ⟨x, _, e, _⟩ := pg_bar h hv hl
  rw [e]; rfl
theorem pg_lt {l t : List UInt8} {k : Nat} (h : (cutL 32 l)[k + 1]? = some t) {g0 : GraphT} (hv : isGraphB g0 = true) (hl : l = fmtG g0) : k < g0.2.length := by
  obtain ⟨x, e, _⟩ := pg_bar h hv hl
  exact lt_of_getElem? e
theorem pg_step {l t u v : List UInt8} {k : Nat} {x1 x2 : Int} (h : (cutL 32 l)[k + 1]? = some t) (hu : (cutL 45 t)[0]? = some u) (hv2 : (cutL 45 t)[1]? = some v) (n1 : Nm u x1) (n2 : Nm v x2) {bars : List BarT} {g0 : GraphT} (hv : isGraphB g0 = true) (hl : l = fmtG g0) (ih : bars = g0.2.take k) : bars ++ [(x1, x2)] = g0.2.take (k + 1) := by
  obtain ⟨x, hx, e, hb⟩ := pg_bar h hv hl
  rw [e] at hu hv2
  simp only [List.getElem?_cons_zero, List.getElem?_cons_succ, Option.some.injEq] at hu hv2
  subst hu
  subst hv2
  rw [take_succ_of hx, ih, n1.fmt hb.1 hb.2.1, n2.fmt hb.2.2.1 hb.2.2.2]
end Go.Proofs.Ytnjecekaenddiaa
