/- The null space that the program's elimination tells. Condition: a matrix whose minors are small (Fit). -/
import Derived.Test.YtmfeabfbhaiaeaaRk2
namespace Go.Proofs.Ytmfeabfbhaiaeaa
open Go.RowKit Gr
set_option maxRecDepth 100000
set_option linter.unusedVariables false
set_option linter.unusedSimpArgs false

/-- the row of each column, or -1 -/
def rI (P : List Nat) (r k : Nat) : Int := if k ∈ P.take r then ((P.take r).idxOf k : Int) else -1
theorem rI_zero (P : List Nat) (k : Nat) : rI P 0 k = -1 := by unfold rI; rw [List.take_zero, if_neg (by simp)]
theorem rI_succ {P : List Nat} (hP : P.Nodup) {r : Nat} (hr : r < P.length) (k : Nat) : rI P (r + 1) k = if k = P[r] then (r : Int) else rI P r k := by
  have e : P.take (r + 1) = P.take r ++ [P[r]] := List.take_succ_eq_append_getElem hr
  have hn : P[r] ∉ P.take r := by
    intro hm
    obtain ⟨j, hj, he⟩ := List.mem_take_iff_getElem.1 hm
    have := (List.getElem_inj (h₀ := by omega) (h₁ := hr) hP).1 he
    omega
  unfold rI
  rw [e]
  by_cases h1 : k = P[r]
  · rw [if_pos h1, h1, if_pos (List.mem_append_right _ (List.mem_singleton.2 rfl)), List.idxOf_append, if_neg hn]
    simp [List.length_take]; omega
  · rw [if_neg h1]
    by_cases h2 : k ∈ P.take r
    · rw [if_pos (List.mem_append_left _ h2), if_pos h2, List.idxOf_append, if_pos h2]
    · rw [if_neg (fun hm => by rcases List.mem_append.1 hm with hm | hm; exact h2 hm; exact h1 (List.mem_singleton.1 hm)), if_neg h2]
theorem rI_all {P : List Nat} (k : Nat) : rI P P.length k = if k ∈ P then (P.idxOf k : Int) else -1 := by unfold rI; rw [List.take_length]
def freeTo (P : List Nat) (c : Nat) : List Nat := (List.range c).filter fun k => !P.contains k
theorem freeTo_succ (P : List Nat) (c : Nat) : freeTo P (c + 1) = if c ∈ P then freeTo P c else freeTo P c ++ [c] := by
  unfold freeTo
  rw [List.range_succ, List.filter_append]
  by_cases h : c ∈ P
  · rw [if_pos h]; simp [h]
  · rw [if_neg h]; simp [h]
theorem freeTo_len (P : List Nat) (c : Nat) : (freeTo P c).length ≤ c := by
  have := List.length_filter_le (fun k => !P.contains k) (List.range c)
  simpa [freeTo] using this
def nullTo (M : List (List Int)) (n c : Nat) : List (List Int) := (freeTo (redF M.length (entF M) n).P c).map fun k => rowL n (primF n (vI (redF M.length (entF M) n) k))
def nullL (M : List (List Int)) (n : Nat) : List (List Int) := nullTo M n n

theorem ownInts_made {w1 : World} {base g n : Nat} (h : w1.ownsRow base 3 1 (.slice (some ⟨g, 0, none⟩) n n) n (madeCells (Value.cells (.int .i64 0)) (n * 1)).toList) : OwnInts w1 base (.slice (some ⟨g, 0, none⟩) n n) (rowL n fun _ => 0) := by
  unfold OwnInts
  rw [rowL_length]
  have e : (rowL n fun _ => 0).map (Value.int .i64) = (madeCells (Value.cells (.int .i64 0)) (n * 1)).toList := by
    rw [Nat.mul_one]
    simp only [rowL, Value.cells, toList_madeCells_one, List.map_map]
    exact List.eq_replicate_iff.2 ⟨by simp, fun b hb => by obtain ⟨x, _, rfl⟩ := List.mem_map.1 hb; rfl⟩
  rw [e]; exact h
theorem OwnInts.setRow {W : World} {base b c n : Nat} {f : Nat → Int} (h : OwnInts W base (.slice (some ⟨b, 0, none⟩) n c) (rowL n f)) (k : Nat) (x : Int) : OwnInts (W.setCell ⟨b, k, none⟩ (.int .i64 x)) base (.slice (some ⟨b, 0, none⟩) n c) (rowL n fun q => if q = k then x else f q) := by
  have h1 : OwnInts W base (.slice (some ⟨b, 0, none⟩) (rowL n f).length c) (rowL n f) := by rw [rowL_length]; exact h
  have h2 := OwnInts.setAt (j := k) h1 x
  rw [rowL_set, rowL_length] at h2
  exact h2
theorem OwnInts.rowCell {W : World} {base b c n : Nat} {f : Nat → Int} (h : OwnInts W base (.slice (some ⟨b, 0, none⟩) n c) (rowL n f)) {k : Nat} (hk : k < n) : W.cell? ⟨b, k, none⟩ = some (.int .i64 (f k)) := by
  have h1 : OwnInts W base (.slice (some ⟨b, 0, none⟩) (rowL n f).length c) (rowL n f) := by rw [rowL_length]; exact h
  exact h1.cellAt (rowL_get hk)
theorem OwnInts.rowFroz {W : World} {base b c n : Nat} {f : Nat → Int} (h : OwnInts W base (.slice (some ⟨b, 0, none⟩) n c) (rowL n f)) (k : Nat) : W.frozen? ⟨b, k, none⟩ = false := by
  have h1 : OwnInts W base (.slice (some ⟨b, 0, none⟩) (rowL n f).length c) (rowL n f) := by rw [rowL_length]; exact h
  exact h1.frozAt k
theorem rowL_congr' {n : Nat} {f h : Nat → Int} {W : World} {base : Nat} {v : Value} (e : ∀ k, k < n → f k = h k) (ho : OwnInts W base v (rowL n f)) : OwnInts W base v (rowL n h) := by rwa [rowL_congr e] at ho

theorem ownsRow_base' {W : World} {base base' : Nat} {v : Value} {ll : List (List Int)} (h : OwnIntss W base v ll) (hb : base' ≤ base) : OwnIntss W base' v ll := by
  obtain ⟨vs, h1, h2⟩ := h
  exact ⟨vs, ownsRow_base h1 hb, h2.mono hb⟩

end Go.Proofs.Ytmfeabfbhaiaeaa
