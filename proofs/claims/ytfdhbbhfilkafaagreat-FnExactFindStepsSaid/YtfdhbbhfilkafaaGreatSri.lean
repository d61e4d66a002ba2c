/- slices.Sort on a slice of ints of the call's own. No condition but sizes. -/
import Derived.Test.YtfdhbbhfilkafaaGreatApp3
import Derived.Test.YtfdhbbhfilkafaaGreatSrt
import Derived.Sort.Grow
namespace Go.Proofs.YtfdhbbhfilkafaaGreat
open Go.RowKit
set_option maxRecDepth 100000
set_option linter.unusedVariables false
set_option linter.unusedSimpArgs false

def leB (x y : Int) : Bool := decide (x ≤ y)
def srtL (F : List Int) : List Int := F.mergeSort leB
theorem srtL_perm (F : List Int) : (srtL F).Perm F := List.mergeSort_perm _ _
theorem srtL_length (F : List Int) : (srtL F).length = F.length := (srtL_perm F).length_eq
theorem srtL_sorted (F : List Int) : (srtL F).Pairwise (· ≤ ·) := by
  have h := List.pairwise_mergeSort (le := leB) (fun a b c h1 h2 => by simp only [leB, decide_eq_true_eq] at *; omega) (fun a b => by simp only [leB, Bool.or_eq_true, decide_eq_true_eq]; omega) F
  exact h.imp fun h => by simpa [leB] using h
/-! ### the sort -/
theorem holdsI_of_block {w : World} {g : Nat} {cur : Array Value} {e : TypeId} {ss : List Int} (hb : w.heap[g]? = some (.cells cur e (0, 0))) (ht : cur.toList.take ss.length = ss.map (Value.int .i64)) : Go.Sort.Holds (Value.int .i64) w g 0 ss.toArray := by
  intro j hj
  have hj' : j < ss.length := by simpa using hj
  refine ⟨?_, by simp [World.frozen?, hb]⟩
  have h1 : (cur.toList.take ss.length)[j]? = (ss.map (Value.int .i64))[j]? := by rw [ht]
  rw [List.getElem?_take_of_lt hj'] at h1
  simp only [World.cell?, hb, Nat.zero_add]
  simp only [Option.isSome_none, Bool.false_eq_true, if_false]
  rw [← Array.getElem?_toList, h1]
  simp [hj']
theorem heapI_sorted {w : World} {g n : Nat} {os : Array Obj} {cur : Array Value} {e : TypeId} {fr : Nat × Nat} (d : Array Int) (hb : w.heap[g]? = some (.cells cur e fr)) :
    (Go.Sort.grow (Go.Sort.putRow (Value.int .i64) (Go.Sort.ahead w n) g 0 d) os).heap[g]? = some (.cells (Go.Sort.putCells (Value.int .i64) 0 d cur) e fr) := by
  have hg : g < w.heap.size := (Array.getElem?_eq_some_iff.1 hb).1
  rw [Go.Sort.heap_grow_old _ _ (by simpa using hg)]
  simp [Go.Sort.putRow, Go.Sort.mapBlock, Go.Sort.ahead, Array.getElem?_modify, hb, Go.Sort.onCells]
theorem keptI_sorted {w : World} {g n : Nat} {os : Array Obj} (d : Array Int) : Kept (fun k => k = g) w (Go.Sort.grow (Go.Sort.putRow (Value.int .i64) (Go.Sort.ahead w n) g 0 d) os) := by
  refine ⟨rfl, rfl, rfl, by simp, fun k hk hne => ?_⟩
  rw [Go.Sort.heap_grow_old _ _ (by simpa using hk)]
  have : g ≠ k := fun e => hne e.symm
  simp [Go.Sort.putRow, Go.Sort.mapBlock, Go.Sort.ahead, Array.getElem?_modify, this]
theorem takeI_putCells (cur : Array Value) (ts : List Int) (h : ts.length ≤ cur.size) : (Go.Sort.putCells (Value.int .i64) 0 ts.toArray cur).toList.take ts.length = ts.map (Value.int .i64) := by
  apply List.ext_getElem?
  intro j
  by_cases hj : j < ts.length
  · rw [List.getElem?_take_of_lt hj, Array.getElem?_toList]
    simp [Go.Sort.putCells, hj, show j < cur.size by omega]
  · rw [List.getElem?_take_eq_none (by omega), List.getElem?_eq_none (by simp; omega)]
theorem ownI_sorted {w : World} {base g cap n : Nat} {e : TypeId} {os : Array Obj} {cur : Array Value} {ss ts : List Int} (hl : ts.length = ss.length) (hbase : base ≤ g) (hb : w.heap[g]? = some (.cells cur e (0, 0)))
    (h1 : ss.length ≤ cap) (h2 : cap ≤ maxLen) (h3 : cur.size = cap * 1) :
    (Go.Sort.grow (Go.Sort.putRow (Value.int .i64) (Go.Sort.ahead w n) g 0 ts.toArray) os).ownsRow base e 1 (.slice (some ⟨g, 0, none⟩) ss.length cap) ss.length (ts.map (Value.int .i64)) :=
  ⟨by simp [hl], .inr ⟨g, cap, _, rfl, hbase, heapI_sorted _ hb, h1, h2, by simp [Go.Sort.putCells, h3], by rw [Nat.mul_one, ← hl]; exact takeI_putCells cur ts (by omega)⟩⟩

/-- slices.Sort of a slice of the call's own -/
theorem sort_own (W : World) (base : Nat) (v : Value) (F : List Int) (h : OwnInts W base v F) (hn : F.length ≤ 1099511627776) :
    Calls Tryz.prog 63 #[v] W fun e w' => e = .returned (.tuple #[]) ∧ OwnInts w' base v (srtL F) ∧ Kept (fun k => some k = v.ownBlock) W w' := by
  by_cases h0 : F.length = 0
  · have hF : F = [] := List.eq_nil_of_length_eq_zero h0
    subst hF
    obtain ⟨a, cap, rfl, _⟩ := h.form
    refine (Tryz.slices_Sort_int_none a cap W).mono ?_
    rintro e w' ⟨rfl, rfl⟩
    exact ⟨rfl, by simpa [srtL] using h, Kept.refl _ _⟩
  · have h2 := h
    rcases h.2 with ⟨_, e0⟩ | ⟨g, cap, cur, rfl, hb, hg, hnc, hcm, hcs, htake⟩
    · exact absurd e0 h0
    · refine (Tryz.slices_Sort_int g 0 cap F W (holdsI_of_block hg (by simpa using htake)) (Array.getElem?_eq_some_iff.1 hg).1 (by omega)).mono ?_
      rintro e w' ⟨rfl, n, os, rfl⟩
      refine ⟨rfl, ?_, (keptI_sorted _).mono fun k _ hk => by subst hk; rfl⟩
      have h9 := ownI_sorted (n := n) (os := os) (ts := srtL F) (srtL_length F) hb hg hnc hcm hcs
      unfold OwnInts
      rw [srtL_length]
      exact h9
end Go.Proofs.YtfdhbbhfilkafaaGreat
