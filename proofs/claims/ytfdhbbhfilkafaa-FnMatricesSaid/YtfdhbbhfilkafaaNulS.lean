/- The null space that the reference's elimination tells. Condition: a matrix whose minors are small (Fit). -/
import Derived.Test.YtfdhbbhfilkafaaNul
namespace Go.Proofs.Ytfdhbbhfilkafaa
open Go.RowKit Gr
set_option maxRecDepth 100000
set_option linter.unusedVariables false
set_option linter.unusedSimpArgs false

def hasB (l : List Int) (x : Int) : Bool := l.contains x
set_option maxHeartbeats 2000000 in
theorem l2Has_any (a : Option Addr) (n cap : Nat) (l : List Int) (x : Int) (W : World) (h : IntsAt W a n l) (hn : n ≤ 1099511627776) :
    Calls Try.prog 99 #[.slice a n cap, .int .i64 x] W fun e w' => e = .returned (.bool (hasB l x)) ∧ W = w' := by
  have HL := Lib.hid h.1
  have HC := Lib.hid h.2
  clear h
  go_enter Try.func99, Try.ntmps99
  go_wp2_with fail
  go_loop [5] (fun i => ∃ k : Nat, k ≤ n ∧ i = .int .i64 k ∧ (l.take k).contains x = false) (fun i => n - (intOf i).toNat)
  case atStart => exact ⟨0, Nat.zero_le _, rfl, by simp⟩
  case round =>
    obtain ⟨k, hk, rfl, hnc⟩ := hrel
    have HN := Lib.hid hnc
    clear hnc
    by_cases hlt : k < n
    · obtain ⟨b, off, y, rfl, hbl, hy, hc⟩ := HC.out k hlt
      have HY := Lib.hid hy
      clear hy
      by_cases e : y = x
      · have e1 : (y == x) = true := by simp [e]
        have HE := Lib.hid e
        clear e
        go_wp2_with fail
        go_ret
        refine ⟨?_, rfl⟩
        have : hasB l x = true := by unfold hasB; simp only [List.contains_iff_mem]; rw [← HE.out]; exact List.mem_of_getElem? HY.out
        rw [this]; rfl
      · have e1 : (y == x) = false := by simp [e]
        have HE := Lib.hid e
        clear e
        go_wp2_with fail
        go_round
        case rel =>
          refine ⟨k + 1, by omega, by go_num, ?_⟩
          have h1 := HN.out
          have h2 := HE.out
          rw [take_succ_of HY.out]
          simp only [List.contains_eq_mem, decide_eq_false_iff_not, List.mem_append, List.mem_singleton, not_or] at h1 ⊢
          exact ⟨h1, fun h => h2 h.symm⟩
        case measure => simp [intOf]; omega
    · obtain rfl : k = n := by omega
      have HF : Hid (hasB l x = false) := Lib.hid (by unfold hasB; have h1 := HN.out; rwa [List.take_of_length_le (by have := HL.out; omega)] at h1)
      go_wp2_with fail
      go_ret
      exact ⟨by rw [HF.out]; rfl, rfl⟩

/-- what is known of the reference's state in the end -/
structure Fin (m n : Nat) (S : Nat → Nat → Int) (P : List Nat) : Prop where
  len : P.length ≤ m
  cols : ∀ j ∈ P, j < n
  nodup : P.Nodup
  num : ∀ i, i < m → ∀ k, k < n → -2121320343 ≤ S i k ∧ S i k ≤ 2121320343
  piv : ∀ i (h : i < P.length), S i P[i] ≠ 0
  q : ∀ i, i < P.length → ∀ free, 0 < qN S P free i ∧ qN S P free i ≤ 2121320343
  d : ∀ i, i ≤ P.length → ∀ free, 0 < dN S P free i ∧ dN S P free i ≤ 2121320343
theorem fin_of {M : List (List Int)} {n : Nat} {B : Int} (hf : Fit M n B) : Fin M.length n (redS M.length n (entF M) n).S (redS M.length n (entF M) n).P := by
  obtain ⟨X, hI⟩ := Inv.all (m := M.length) (n := n) (entF M) (Nat.le_refl n)
  obtain ⟨hP, hS⟩ := red_sim (m := M.length) (n := n) (entF M) (Nat.le_refl n)
  obtain ⟨h1, h2⟩ := SOk_of hf.bnd hf.small (Nat.le_refl n)
  have h3 := redF_P (m := M.length) (entF M) n
  rw [hP]
  refine ⟨hI.len, hI.cols, h3.2, h2, fun i h => (piv_ne hI hS h).1, fun i h free => ?_, fun i h free => ?_⟩
  · obtain ⟨q1, q2, _⟩ := qN_dvd hI hS h free
    refine ⟨q1, ?_⟩
    have := Nat.le_of_dvd (Int.natAbs_pos.2 hI.nz) q2
    have := h1.2.1
    omega
  · have d1 := dN_ok hI hS free h
    have := Nat.le_of_dvd (Int.natAbs_pos.2 hI.nz) d1.2.1
    have := h1.2.1
    exact ⟨d1.1, by omega⟩
theorem nullS (M : List (List Int)) (n : Nat) (c : Nat) (hc : c ≤ n) : nullTo M n c = (freeTo (redS M.length n (entF M) n).P c).map fun k => rowL n (primF n (vS (redS M.length n (entF M) n).S (redS M.length n (entF M) n).P k)) := by
  obtain ⟨X, hI⟩ := Inv.all (m := M.length) (n := n) (entF M) (Nat.le_refl n)
  obtain ⟨hP, hS⟩ := red_sim (m := M.length) (n := n) (entF M) (Nat.le_refl n)
  unfold nullTo
  rw [hP]
  refine List.map_congr_left fun k hk => rowL_congr fun j hj => ?_
  have hkn : k < n := by
    unfold freeTo at hk
    have := List.mem_range.1 (List.mem_filter.1 hk).1
    omega
  exact null_sim hI hS hkn hj
theorem dN_step {S : Nat → Nat → Int} {P : List Nat} {free i : Nat} : dN S P free (i + 1) = dN S P free i / Nat.gcd (dN S P free i) (qN S P free i) * qN S P free i := rfl
theorem natAbs_max {x p : Int} (h : (0 ≤ x ∧ p = x) ∨ (x < 0 ∧ p = -x)) : p = (x.natAbs : Int) := by omega

def vTo (S : Nat → Nat → Int) (P : List Nat) (free i k : Nat) : Int :=
  if k = free then (dN S P free P.length : Int) else if k ∈ P.take i then -(S (P.idxOf k) free * (dN S P free P.length : Int)).tdiv (S (P.idxOf k) k) else 0
theorem vTo_succ {S : Nat → Nat → Int} {P : List Nat} (hP : P.Nodup) {free i : Nat} (hf : free ∉ P) (hi : i < P.length) (k : Nat) :
    vTo S P free (i + 1) k = if k = P[i] then -(S i free * (dN S P free P.length : Int)).tdiv (S i P[i]) else vTo S P free i k := by
  have e : P.take (i + 1) = P.take i ++ [P[i]] := List.take_succ_eq_append_getElem hi
  have hne : P[i] ≠ free := fun h => hf (h ▸ List.getElem_mem hi)
  have hix : P.idxOf P[i] = i := by
    have h1 : P.idxOf P[i] < P.length := List.idxOf_lt_length_of_mem (List.getElem_mem hi)
    exact (List.getElem_inj (h₀ := h1) (h₁ := hi) hP).1 (List.getElem_idxOf h1)
  unfold vTo
  rw [e]
  by_cases h1 : k = P[i]
  · rw [if_pos h1, h1, if_neg hne, if_pos (List.mem_append_right _ (List.mem_singleton.2 rfl)), hix]
  · rw [if_neg h1]
    by_cases h2 : k = free
    · rw [if_pos h2, if_pos h2]
    · rw [if_neg h2, if_neg h2]
      by_cases h3 : k ∈ P.take i
      · rw [if_pos (List.mem_append_left _ h3), if_pos h3]
      · rw [if_neg (fun hm => by rcases List.mem_append.1 hm with hm | hm; exact h3 hm; exact h1 (List.mem_singleton.1 hm)), if_neg h3]
theorem vTo_all {S : Nat → Nat → Int} {P : List Nat} {free k : Nat} : vTo S P free P.length k = vS S P free k := by
  unfold vTo vS; rw [List.take_length]
end Go.Proofs.Ytfdhbbhfilkafaa
