/- NullspaceOf of the program and of the reference. No condition but sizes. -/
import Derived.Test.YtfbmpkdjhhcnpaaMoP25
import Derived.Deep.RegionHeld3
import Derived.Deep.RegionLaw
namespace Go.Proofs.Ytfbmpkdjhhcnpaa
open Go.RowKit Gr
set_option maxRecDepth 100000
set_option linter.unusedVariables false
set_option linter.unusedSimpArgs false

def nullM (M : List (List Int)) : List (List Int) := if isMat M = true then nullL M (width M) else []
theorem nullL_len (M : List (List Int)) (n : Nat) : (nullL M n).length ≤ n := by
  unfold nullL nullTo; rw [List.length_map]; exact freeTo_len _ _
theorem nullL_sum (M : List (List Int)) (n : Nat) : sumLen (nullL M n) ≤ n * n := by
  have h : sumLen (nullL M n) = (nullL M n).length * n := by
    unfold nullL nullTo
    generalize freeTo (redF M.length (entF M) n).P n = l
    induction l with
    | nil => simp [sumLen]
    | cons x l ih =>
      simp only [sumLen, List.map_cons, List.sum_cons, List.length_cons, rowL_length] at ih ⊢
      rw [ih, Nat.succ_mul]; omega
  rw [h]
  exact Nat.mul_le_mul_right _ (nullL_len M n)
theorem nullM_sz (M : List (List Int)) : szIntss (nullM M) ≤ 1048576 := by
  unfold nullM
  split
  · rename_i h
    have h1 := (fit_mat h).n64
    have h2 := nullL_len M (width M)
    have h3 := nullL_sum M (width M)
    have h4 : width M * width M ≤ 64 * 64 := Nat.mul_le_mul h1 h1
    unfold szIntss; omega
  · decide

theorem made_intss (W : World) : OwnIntss (W.alloc (.cells #[] 35)) W.heap.size (.slice (some ⟨W.heap.size, 0, none⟩) 0 0) [] := ⟨[], World.ownsRow_made W #[] 0 (Nat.le_refl _) (Nat.zero_le _) rfl, IRows.nil _ _⟩

end Go.Proofs.Ytfbmpkdjhhcnpaa

namespace Go.Proofs.Ytfbmpkdjhhcnpaa
open Go.RowKit Gr
set_option maxRecDepth 100000
set_option linter.unusedVariables false
set_option linter.unusedSimpArgs false

def colL (M : List (List Int)) (m j : Nat) : List Int := rowL m fun i => entF M i j
def turnL (M : List (List Int)) (n : Nat) : List (List Int) := (List.range n).map (colL M M.length)
/-- the state: the columns before c whole, column c as far as row i -/
def stT (M : List (List Int)) (n c i : Nat) : List (List Int) := (List.range n).map fun j => if j < c then colL M M.length j else if j = c then colL M i c else []
theorem stT_length (M : List (List Int)) (n c i : Nat) : (stT M n c i).length = n := by simp [stT]
theorem stT_zero (M : List (List Int)) (n : Nat) : stT M n 0 0 = List.replicate n [] := by
  refine List.eq_replicate_iff.2 ⟨stT_length _ _ _ _, fun b hb => ?_⟩
  obtain ⟨j, _, rfl⟩ := List.mem_map.1 hb
  by_cases e : j = 0 <;> simp [e, colL, rowL]
theorem stT_get {M : List (List Int)} {n c i : Nat} (h : c < n) : (stT M n c i)[c]? = some (colL M i c) := by simp [stT, h]
theorem stT_set {M : List (List Int)} {n c i : Nat} (i' : Nat) : (stT M n c i).set c (colL M i' c) = stT M n c i' := by
  refine List.ext_getElem (by simp [stT]) fun j h1 h2 => ?_
  simp only [stT, List.getElem_set, List.getElem_map, List.getElem_range]
  by_cases e : c = j
  · subst e; simp
  · rw [if_neg e, if_neg (Ne.symm e), if_neg (Ne.symm e)]
theorem stT_next (M : List (List Int)) (n c : Nat) : stT M n c M.length = stT M n (c + 1) 0 := by
  refine List.ext_getElem (by simp [stT]) fun j h1 h2 => ?_
  simp only [stT, List.getElem_map, List.getElem_range]
  by_cases e1 : j < c
  · rw [if_pos e1, if_pos (by omega)]
  · by_cases e2 : j = c
    · subst e2; simp
    · rw [if_neg e1, if_neg e2, if_neg (by omega)]
      by_cases e3 : j = c + 1
      · rw [if_pos e3]; simp [colL, rowL]
      · rw [if_neg e3]
theorem stT_done (M : List (List Int)) (n i : Nat) : stT M n n i = turnL M n := by
  refine List.ext_getElem (by simp [stT, turnL]) fun j h1 h2 => ?_
  have : j < n := by simpa [stT] using h1
  simp only [stT, turnL, List.getElem_map, List.getElem_range, if_pos this]
theorem colL_succ (M : List (List Int)) (i c : Nat) : colL M (i + 1) c = colL M i c ++ [entF M i c] := by simp [colL, rowL, List.range_succ]
theorem colL_length (M : List (List Int)) (i c : Nat) : (colL M i c).length = i := by simp [colL, rowL]
theorem entF_get {M : List (List Int)} {i k : Nat} {r : List Int} {x : Int} (h : M[i]? = some r) (hx : r[k]? = some x) : entF M i k = x := by simp [entF, h, hx]

theorem nilRows {W : World} {base n : Nat} : IRows W base (List.replicate n (.slice none 0 0)) (List.replicate n []) := by
  refine ⟨by simp, fun k v r hv hr => ?_, ?_⟩
  · rw [List.getElem?_replicate] at hv hr
    split at hv
    · simp at hv; rw [if_pos ‹_›] at hr; simp at hr; subst hv; subst hr; exact OwnInts.nil W base
    · simp at hv
  · refine List.pairwise_iff_getElem.2 fun i j hi hj hij => ?_
    intro g hg
    simp at hg
    simp [Value.ownBlock] at hg
theorem mat_made {w1 : World} {base g n : Nat} (h : w1.ownsRow base 35 1 (.slice (some ⟨g, 0, none⟩) n n) n (madeCells (Value.cells (.slice none 0 0)) (n * 1)).toList) : MatO w1 base g n n (List.replicate n (.slice none 0 0)) (List.replicate n []) := by
  have e : (madeCells (Value.cells (.slice none 0 0)) (n * 1)).toList = List.replicate n (.slice none 0 0) := by
    rw [Nat.mul_one]
    simp only [Value.cells, toList_madeCells_one]
  rw [e] at h
  exact ⟨h, nilRows⟩

end Go.Proofs.Ytfbmpkdjhhcnpaa

namespace Go.Proofs.Ytfbmpkdjhhcnpaa
open Go.RowKit Gr
set_option maxRecDepth 100000
set_option linter.unusedVariables false
set_option linter.unusedSimpArgs false

def turnTo (M : List (List Int)) (k : Nat) : List (List Int) := (List.range k).map (colL M M.length)
theorem turnTo_succ (M : List (List Int)) (k : Nat) : turnTo M (k + 1) = turnTo M k ++ [colL M M.length k] := by simp [turnTo, List.range_succ]
def trmL (M : List (List Int)) : List (List Int) := if isMat M = true then turnL M (width M) else []
theorem turnL_sum (M : List (List Int)) (n : Nat) : sumLen (turnL M n) = n * M.length := by
  unfold turnL
  have h : ∀ l : List Nat, sumLen (l.map (colL M M.length)) = l.length * M.length := fun l => by
    induction l with
    | nil => simp [sumLen]
    | cons x l ih =>
      simp only [sumLen, List.map_cons, List.sum_cons, List.length_cons, colL_length] at ih ⊢
      rw [ih, Nat.succ_mul]; omega
  rw [h, List.length_range]
theorem trmL_sz (M : List (List Int)) : szIntss (trmL M) ≤ 1048576 := by
  unfold trmL
  split
  · rename_i h
    have h1 := (fit_mat h).n64
    have h2 := (fit_mat h).m64
    have h3 := turnL_sum M (width M)
    have h4 : width M * M.length ≤ 64 * 64 := Nat.mul_le_mul h1 h2
    have h5 : (turnL M (width M)).length = width M := by simp [turnL]
    unfold szIntss; omega
  · decide

end Go.Proofs.Ytfbmpkdjhhcnpaa

