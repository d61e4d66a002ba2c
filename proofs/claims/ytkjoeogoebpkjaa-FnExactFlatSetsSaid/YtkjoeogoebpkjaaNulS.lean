/- The null space that the reference's elimination tells. Condition: a matrix whose minors are small (Fit). -/
import Derived.Test.YtkjoeogoebpkjaaNul
namespace Go.Proofs.Ytkjoeogoebpkjaa
open Go.RowKit Gr
set_option maxRecDepth 100000
set_option linter.unusedVariables false
set_option linter.unusedSimpArgs false

def hasB (l : List Int) (x : Int) : Bool := l.contains x
/-- what is known of the reference's state in the end -/
structure Fin (m n : Nat) (S : Nat → Nat → Int) (P : List Nat) : Prop where
  len : P.length ≤ m
  cols : ∀ j ∈ P, j < n
  nodup : P.Nodup
  num : ∀ i, i < m → ∀ k, k < n → -2121320343 ≤ S i k ∧ S i k ≤ 2121320343
  piv : ∀ i (h : i < P.length), S i P[i] ≠ 0
  q : ∀ i, i < P.length → ∀ free, 0 < qN S P free i ∧ qN S P free i ≤ 2121320343
  d : ∀ i, i ≤ P.length → ∀ free, 0 < dN S P free i ∧ dN S P free i ≤ 2121320343
theorem fin_of {M : List (List Int)} {n : Nat} {B : Int} (hf : Fit M n B) : Fin M.length n (redS M.length n (entF M) n).S (redS M.length n (entF M) n).P := by
  obtain ⟨X, hI⟩ := Inv.all (m := M.length) (n := n) (entF M) (Nat.le_refl n)
  obtain ⟨hP, hS⟩ := red_sim (m := M.length) (n := n) (entF M) (Nat.le_refl n)
  obtain ⟨h1, h2⟩ := SOk_of hf.bnd hf.small (Nat.le_refl n)
  have h3 := redF_P (m := M.length) (entF M) n
  rw [hP]
  refine ⟨hI.len, hI.cols, h3.2, h2, fun i h => (piv_ne hI hS h).1, fun i h free => ?_, fun i h free => ?_⟩
  · obtain ⟨q1, q2, _⟩ := qN_dvd hI hS h free
    refine ⟨q1, ?_⟩
    have := Nat.le_of_dvd (Int.natAbs_pos.2 hI.nz) q2
    have := h1.2.1
    omega
  · have d1 := dN_ok hI hS free h
    have := Nat.le_of_dvd (Int.natAbs_pos.2 hI.nz) d1.2.1
    have := h1.2.1
    exact ⟨d1.1, by omega⟩
theorem nullS (M : List (List Int)) (n : Nat) (c : Nat) (hc : c ≤ n) : nullTo M n c = (freeTo (redS M.length n (entF M) n).P c).map fun k => rowL n (primF n (vS (redS M.length n (entF M) n).S (redS M.length n (entF M) n).P k)) := by
  obtain ⟨X, hI⟩ := Inv.all (m := M.length) (n := n) (entF M) (Nat.le_refl n)
  obtain ⟨hP, hS⟩ := red_sim (m := M.length) (n := n) (entF M) (Nat.le_refl n)
  unfold nullTo
  rw [hP]
  refine List.map_congr_left fun k hk => rowL_congr fun j hj => ?_
  have hkn : k < n := by
    unfold freeTo at hk
    have := List.mem_range.1 (List.mem_filter.1 hk).1
    omega
  exact null_sim hI hS hkn hj
theorem dN_step {S : Nat → Nat → Int} {P : List Nat} {free i : Nat} : dN S P free (i + 1) = dN S P free i / Nat.gcd (dN S P free i) (qN S P free i) * qN S P free i := rfl
theorem natAbs_max {x p : Int} (h : (0 ≤ x ∧ p = x) ∨ (x < 0 ∧ p = -x)) : p = (x.natAbs : Int) := by omega

def vTo (S : Nat → Nat → Int) (P : List Nat) (free i k : Nat) : Int :=
  if k = free then (dN S P free P.length : Int) else if k ∈ P.take i then -(S (P.idxOf k) free * (dN S P free P.length : Int)).tdiv (S (P.idxOf k) k) else 0
theorem vTo_succ {S : Nat → Nat → Int} {P : List Nat} (hP : P.Nodup) {free i : Nat} (hf : free ∉ P) (hi : i < P.length) (k : Nat) :
    vTo S P free (i + 1) k = if k = P[i] then -(S i free * (dN S P free P.length : Int)).tdiv (S i P[i]) else vTo S P free i k := by
  have e : P.take (i + 1) = P.take i ++ [P[i]] := List.take_succ_eq_append_getElem hi
  have hne : P[i] ≠ free := fun h => hf (h ▸ List.getElem_mem hi)
  have hix : P.idxOf P[i] = i := by
    have h1 : P.idxOf P[i] < P.length := List.idxOf_lt_length_of_mem (List.getElem_mem hi)
    exact (List.getElem_inj (h₀ := h1) (h₁ := hi) hP).1 (List.getElem_idxOf h1)
  unfold vTo
  rw [e]
  by_cases h1 : k = P[i]
  · rw [if_pos h1, h1, if_neg hne, if_pos (List.mem_append_right _ (List.mem_singleton.2 rfl)), hix]
  · rw [if_neg h1]
    by_cases h2 : k = free
    · rw [if_pos h2, if_pos h2]
    · rw [if_neg h2, if_neg h2]
      by_cases h3 : k ∈ P.take i
      · rw [if_pos (List.mem_append_left _ h3), if_pos h3]
      · rw [if_neg (fun hm => by rcases List.mem_append.1 hm with hm | hm; exact h3 hm; exact h1 (List.mem_singleton.1 hm)), if_neg h3]
theorem vTo_all {S : Nat → Nat → Int} {P : List Nat} {free k : Nat} : vTo S P free P.length k = vS S P free k := by
  unfold vTo vS; rw [List.take_length]
end Go.Proofs.Ytkjoeogoebpkjaa
