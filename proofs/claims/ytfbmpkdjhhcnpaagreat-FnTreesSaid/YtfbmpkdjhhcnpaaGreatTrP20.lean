/- The program's elimination without fractions: what 'reduced' hands back. Conditions: a matrix of at most 64 rows and columns; the numbers that arise are small (SOk), which Eli proves. -/
import Derived.Test.YtfbmpkdjhhcnpaaGreatTrP03
import Derived.Test.YtfbmpkdjhhcnpaaGreatTrP19
import Derived.BigRegion
namespace Go.Proofs.YtfbmpkdjhhcnpaaGreat
open Go.RowKit Gr
set_option maxRecDepth 100000
set_option linter.unusedVariables false
set_option linter.unusedSimpArgs false

def rowL (n : Nat) (f : Nat → Int) : List Int := (List.range n).map f
def toLL (F : Nat → Nat → Int) (m n : Nat) : List (List Int) := (List.range m).map fun i => rowL n (F i)
def entF (M : List (List Int)) : Nat → Nat → Int := fun i k => (M[i]?.getD [])[k]?.getD 0
theorem rowL_length (n : Nat) (f : Nat → Int) : (rowL n f).length = n := by simp [rowL]
theorem rowL_get {n k : Nat} {f : Nat → Int} (h : k < n) : (rowL n f)[k]? = some (f k) := by simp [rowL, h]
theorem toLL_length (F : Nat → Nat → Int) (m n : Nat) : (toLL F m n).length = m := by simp [toLL]
theorem toLL_get {F : Nat → Nat → Int} {m n i : Nat} (h : i < m) : (toLL F m n)[i]? = some (rowL n (F i)) := by simp [toLL, h]
theorem rowL_congr {n : Nat} {f h : Nat → Int} (e : ∀ k, k < n → f k = h k) : rowL n f = rowL n h := List.map_congr_left fun k hk => e k (List.mem_range.1 hk)
theorem rowL_set {n k : Nat} {f : Nat → Int} {x : Int} : (rowL n f).set k x = rowL n fun b => if b = k then x else f b := by
  refine List.ext_getElem (by simp [rowL]) fun j h1 h2 => ?_
  simp only [rowL, List.getElem_set, List.getElem_map, List.getElem_range]
  by_cases e : k = j
  · rw [if_pos e, if_pos e.symm]
  · rw [if_neg e, if_neg (Ne.symm e)]
theorem toLL_set {F : Nat → Nat → Int} {m n i : Nat} {f : Nat → Int} : (toLL F m n).set i (rowL n f) = toLL (fun a => if a = i then f else F a) m n := by
  refine List.ext_getElem (by simp [toLL]) fun j h1 h2 => ?_
  simp only [toLL, List.getElem_set, List.getElem_map, List.getElem_range]
  by_cases e : i = j
  · rw [if_pos e, if_pos e.symm]
  · rw [if_neg e, if_neg (Ne.symm e)]
theorem MatO.at {W : World} {base g m n cap : Nat} {vs : List Value} {F : Nat → Nat → Int} (h : MatO W base g m cap vs (toLL F m n)) {i : Nat} (hi : i < m) (hn : 0 < n) :
    ∃ b c, vs[i]? = some (.slice (some ⟨b, 0, none⟩) n c) ∧ W.cell? ⟨g, i, none⟩ = some (.slice (some ⟨b, 0, none⟩) n c) ∧ (∀ k, k < n → W.cell? ⟨b, k, none⟩ = some (.int .i64 (F i k))) ∧ (∀ k, W.frozen? ⟨b, k, none⟩ = false) ∧ b < W.heap.size ∧ base ≤ b := by
  obtain ⟨b, c, h1, h2, h3, h4, h5⟩ := h.row (toLL_get (n := n) hi) (by rw [rowL_length]; exact hn)
  rw [rowL_length] at h1 h2
  exact ⟨b, c, h1, h2, fun k hk => h3.cellAt (rowL_get hk), fun k => h3.frozAt k, h4, h5⟩
theorem MatO.setAt {W : World} {base g m n cap : Nat} {vs : List Value} {F : Nat → Nat → Int} (h : MatO W base g m cap vs (toLL F m n)) {i b c : Nat} (hi : i < m) (hv : vs[i]? = some (.slice (some ⟨b, 0, none⟩) n c)) (k : Nat) (x : Int) :
    MatO (W.setCell ⟨b, k, none⟩ (.int .i64 x)) base g m cap vs (toLL (fun a => if a = i then (fun q => if q = k then x else F i q) else F a) m n) := by
  have h2 := h.setIn (r := rowL n (F i)) (by rw [rowL_length]; exact hv) (toLL_get hi) k x
  rwa [rowL_set, toLL_set] at h2
/-- small numbers -/
def SOk (m n : Nat) (s : ES) : Prop := s.d ≠ 0 ∧ (-2121320343 ≤ s.d ∧ s.d ≤ 2121320343) ∧ ∀ i, i < m → ∀ k, k < n → -2121320343 ≤ s.F i k ∧ s.F i k ≤ 2121320343
end Go.Proofs.YtfbmpkdjhhcnpaaGreat

