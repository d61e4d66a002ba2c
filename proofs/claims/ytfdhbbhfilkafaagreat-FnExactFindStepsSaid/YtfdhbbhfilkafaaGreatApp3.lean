/- append(s, l...) of bars and places, as one step of a region that draws its order. No condition but sizes. -/
import Derived.Test.YtfdhbbhfilkafaaGreatApp2
import Derived.Test.YtfdhbbhfilkafaaGreatFw
import Derived.Deep.RegionLaw
import Derived.Maps.AppendAt
namespace Go.Proofs.YtfdhbbhfilkafaaGreat
open Go.RowKit
set_option maxRecDepth 100000
set_option linter.unusedVariables false
set_option linter.unusedSimpArgs false

theorem pairs_get {α : Type} (f : α → List Value) (hf : ∀ x, (f x).length = 2) {l : List α} {j : Nat} {u : Value} (h : (l.flatMap f)[j]? = some u) : ∃ k r x, l[k]? = some x ∧ r < 2 ∧ (f x)[r]? = some u ∧ j = k * 2 + r := by
  induction l generalizing j with
  | nil => simp at h
  | cons y l ih =>
    simp only [List.flatMap_cons] at h
    by_cases hj : j < 2
    · rw [List.getElem?_append_left (by rw [hf]; exact hj)] at h
      exact ⟨0, j, y, rfl, hj, h, by omega⟩
    · rw [List.getElem?_append_right (by rw [hf]; omega), hf] at h
      obtain ⟨k, r, x, h1, h2, h3, h4⟩ := ih h
      exact ⟨k + 1, r, x, by simpa using h1, h2, h3, by omega⟩
theorem bars_oneCell (l : List BarT) : ∀ u ∈ l.flatMap cellsBar, u.oneCell' = true := by
  intro u hu
  obtain ⟨x, _, hx⟩ := List.mem_flatMap.1 hu
  simp [cellsBar] at hx
  rcases hx with rfl | rfl <;> rfl
theorem places_oneCell (l : List PlaceT) : ∀ u ∈ l.flatMap cellsPlace, u.oneCell' = true := by
  intro u hu
  obtain ⟨x, _, hx⟩ := List.mem_flatMap.1 hu
  simp [cellsPlace] at hx
  rcases hx with rfl | rfl <;> rfl
theorem bars_src {W : World} {ao : Option Addr} {n : Nat} {l : List BarT} (h : BarsAt W ao n l) : ∀ j u, (l.flatMap cellsBar)[j]? = some u → ∃ b off, ao = some ⟨b, off, none⟩ ∧ W.cell? ⟨b, off + j, none⟩ = some u := by
  intro j u hu
  obtain ⟨k, r, x, h1, h2, h3, rfl⟩ := pairs_get cellsBar (fun _ => rfl) hu
  obtain ⟨b, off, y, hb, _, hy, hc0, hc1⟩ := h.2 k (by have := lt_of_getElem? h1; rw [h.1] at this; exact this)
  rw [h1] at hy
  obtain rfl := Option.some.inj hy
  refine ⟨b, off, hb, ?_⟩
  obtain rfl | rfl : r = 0 ∨ r = 1 := by omega
  · simp [cellsBar] at h3; rw [← h3]; exact hc0
  · simp [cellsBar] at h3; rw [← h3]; exact hc1
theorem places_src {W : World} {ao : Option Addr} {n : Nat} {l : List PlaceT} (h : PlacesAt W ao n l) : ∀ j u, (l.flatMap cellsPlace)[j]? = some u → ∃ b off, ao = some ⟨b, off, none⟩ ∧ W.cell? ⟨b, off + j, none⟩ = some u := by
  intro j u hu
  obtain ⟨k, r, x, h1, h2, h3, rfl⟩ := pairs_get cellsPlace (fun _ => rfl) hu
  obtain ⟨b, off, y, hb, _, hy, hc0, hc1⟩ := h.2 k (by have := lt_of_getElem? h1; rw [h.1] at this; exact this)
  rw [h1] at hy
  obtain rfl := Option.some.inj hy
  refine ⟨b, off, hb, ?_⟩
  obtain rfl | rfl : r = 0 ∨ r = 1 := by omega
  · simp [cellsPlace] at h3; rw [← h3]; exact hc0
  · simp [cellsPlace] at h3; rw [← h3]; exact hc1
theorem flat2 {α : Type} (f : α → List Value) (hf : ∀ x, (f x).length = 2) (l : List α) : (l.flatMap f).length = l.length * 2 := by
  induction l with
  | nil => rfl
  | cons x l ih => rw [List.flatMap_cons, List.length_append, hf, ih, List.length_cons]; omega
theorem OwnBars.made (W : World) (base : Nat) (h : base ≤ W.heap.size) : OwnBars (W.alloc (.cells #[] 78)) base (.slice (some ⟨W.heap.size, 0, none⟩) 0 0) [] :=
  World.ownsRow_made W #[] 0 h (Nat.zero_le _) rfl
theorem OwnBars.nil (W : World) (base : Nat) : OwnBars W base (.slice none 0 0) [] := World.ownsRow_nil W base _ _
theorem stepAppBars {w : World} {ops : Array Oper} {o : Oper} {a : Act} {K : Act → World → Prop} {Q : Exit → Act → World → Prop} {E : Prop} (hg : o.guard = none) (s x : Operand)
    (ho : o.op = .call { callee := .builtin .append, args := #[s, x], argTypes := #[24, 24] }) {base : Nat} {v : Value} {l0 : List BarT} (hs : a.eval s = v) (hown : OwnBars w base v l0)
    {ao : Option Addr} {n c : Nat} {l : List BarT} (hx : a.eval x = .slice ao n c) (hat : BarsAt w ao n l) (hl : l0.length + n < 1099511627776) (hbase : base ≤ w.heap.size)
    (hK : ∀ v' w', OwnBars w' base v' (l0 ++ l) → Kept (fun k => some k = v.ownBlock) w w' → (v'.ownBlock = v.ownBlock ∨ v'.ownBlock = some w.heap.size) → K (a.put o.dst v') w') :
    if Region.wanted o (yielded ops a.tmps) = true then Oper.wp Tryz.prog o a w K Q else E := by
  obtain ⟨i0, hi, hz0, hz1, hz2⟩ := info_parts infoBar
  refine step_append_whole _ hg s x 24 ho base 78 i0 _ 2 16 Tryz.underlying24 hi hz0 hz1 hz2 rfl (by decide) v l0.length (l0.flatMap cellsBar) hs hown ao n c (l.flatMap cellsBar) hx (by rw [flat2 cellsBar (fun _ => rfl), hat.1]) (bars_src hat) (bars_oneCell _) (by unfold maxLen; omega) (by omega) hbase ?_
  intro v' w' h1 h2 h3
  refine hK v' w' ?_ (Kept.of_grown h2) h3
  unfold OwnBars
  rw [List.length_append, List.flatMap_append, hat.1]
  exact h1
end Go.Proofs.YtfdhbbhfilkafaaGreat
