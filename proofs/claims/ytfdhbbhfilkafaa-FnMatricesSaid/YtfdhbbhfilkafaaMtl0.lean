/- Matrices: rank and null space add up to the columns, the null space is taken to zero, the rank of the transposed matrix. Plain law, no condition. -/
import Derived.Test.YtfdhbbhfilkafaaAlg
import Derived.Test.YtfdhbbhfilkafaaNulM
import Derived.Test.YtfdhbbhfilkafaaTrm
namespace Go.Proofs.Ytfdhbbhfilkafaa
open Go.RowKit Gr
set_option maxRecDepth 100000
set_option linter.unusedVariables false
set_option linter.unusedSimpArgs false
theorem freeTo_cnt {P : List Nat} {n : Nat} (hP : P.Nodup) (hn : ∀ j ∈ P, j < n) : P.length + (freeTo P n).length = n := by
  have h1 : ∀ (P : List Nat), P.Nodup → (∀ j ∈ P, j < n) → (List.range n).countP (fun k => P.contains k) = P.length := by
    intro P
    induction P with
    | nil => intro _ _; rw [List.countP_eq_zero.2 (fun k _ => by simp)]; rfl
    | cons x P ih =>
      intro hP hn
      obtain ⟨hx, hP'⟩ := List.nodup_cons.1 hP
      have ih := ih hP' fun j hj => hn j (List.mem_cons_of_mem _ hj)
      have key : ∀ L : List Nat, L.countP (fun k => (x :: P).contains k) = L.countP (fun k => P.contains k) + L.countP (fun k => k == x) := by
        intro L
        induction L with
        | nil => rfl
        | cons y L ihL =>
          rw [List.countP_cons, List.countP_cons, List.countP_cons, ihL]
          by_cases e : y = x
          · subst e
            have : P.contains y = false := by simpa using hx
            rw [this]; simp; omega
          · have e1 : (x :: P).contains y = P.contains y := by simp [List.contains_cons, e]
            have e2 : (y == x) = false := by simpa using e
            rw [e1, e2]; simp; omega
      rw [key, ih, List.length_cons]
      congr 1
      have hxn := hn x (List.mem_cons_self ..)
      have e3 : ∀ m : Nat, (List.range m).countP (fun k => k == x) = if x < m then 1 else 0 := by
        intro m
        induction m with
        | zero => rfl
        | succ m ihm =>
          rw [List.range_succ, List.countP_append, ihm, List.countP_singleton]
          by_cases e : m = x
          · subst e; simp
          · have : (m == x) = false := by simpa using e
            simp only [this, Bool.false_eq_true, if_false]
            split <;> split <;> omega
      rw [e3, if_pos hxn]
  have h2 := h1 P hP hn
  have h3 : ∀ L : List Nat, L.countP (fun k => P.contains k) + (L.filter fun k => !P.contains k).length = L.length := by
    intro L
    induction L with
    | nil => rfl
    | cons y L ih =>
      rw [List.countP_cons, List.length_cons]
      cases h : P.contains y
      · rw [List.filter_cons_of_pos (by rw [h]; rfl), List.length_cons]; simp only [Bool.false_eq_true, if_false]; omega
      · rw [List.filter_cons_of_neg (by rw [h]; simp)]; simp only [if_true]; omega
  have h4 := h3 (List.range n)
  rw [List.length_range] at h4
  unfold freeTo
  omega
theorem nullL_cnt (M : List (List Int)) (n : Nat) : rankN M n + (nullL M n).length = n := by
  unfold rankN nullL nullTo
  rw [List.length_map]
  obtain ⟨h1, h2⟩ := redF_P (m := M.length) (entF M) n
  exact freeTo_cnt h2 h1
theorem nullL_get {M : List (List Int)} {n : Nat} {v : List Int} (h : v ∈ nullL M n) : ∃ free, free < n ∧ free ∉ (redF M.length (entF M) n).P ∧ v = rowL n (primF n (vI (redF M.length (entF M) n) free)) := by
  unfold nullL nullTo at h
  obtain ⟨f, hf, rfl⟩ := List.mem_map.1 h
  unfold freeTo at hf
  obtain ⟨h1, h2⟩ := List.mem_filter.1 hf
  exact ⟨f, List.mem_range.1 h1, by simpa using h2, rfl⟩
theorem nullL_ker {M : List (List Int)} {n : Nat} {v : List Int} (h : v ∈ nullL M n) : ∃ f, v = rowL n f ∧ Ker M.length n (entF M) f := by
  obtain ⟨free, h1, h2, rfl⟩ := nullL_get h
  exact ⟨_, rfl, ker_prim (ker_vI (entF M) h1 h2)⟩
theorem nullL_bd {M : List (List Int)} {n : Nat} {B : Int} (hf : Fit M n B) {v : List Int} (h : v ∈ nullL M n) {b : Nat} (hb : B ≤ (b : Int) * b) : ∃ f, v = rowL n (primF n f) ∧ ∀ k, k < n → (f k).natAbs ≤ b := by
  obtain ⟨free, h1, h2, rfl⟩ := nullL_get h
  refine ⟨_, rfl, fun k hk => ?_⟩
  obtain ⟨X, hI⟩ := Inv.all (m := M.length) (n := n) (entF M) (Nat.le_refl n)
  have hnum : ∀ i, i < M.length → ∀ k, k < n → ((redF M.length (entF M) n).F i k).natAbs ≤ b := fun i hi k hk => by
    have h3 := Int.le_trans (hf.bnd.num hI hi hk) hb
    generalize (redF M.length (entF M) n).F i k = x at *
    refine Nat.le_of_not_lt fun hlt => ?_
    have h4 : (b : Int) * b < x.natAbs * x.natAbs := by
      have : b * b < x.natAbs * x.natAbs := Nat.mul_self_lt_mul_self hlt
      exact_mod_cast this
    rw [Int.natAbs_mul_self'] at h4
    omega
  have hd : (redF M.length (entF M) n).d.natAbs ≤ b := by
    have h3 := Int.le_trans (hf.bnd.last hI) hb
    generalize (redF M.length (entF M) n).d = x at *
    refine Nat.le_of_not_lt fun hlt => ?_
    have h4 : (b : Int) * b < x.natAbs * x.natAbs := by
      have : b * b < x.natAbs * x.natAbs := Nat.mul_self_lt_mul_self hlt
      exact_mod_cast this
    rw [Int.natAbs_mul_self'] at h4
    omega
  have hlen := hI.len
  generalize redF M.length (entF M) n = s at *
  unfold vI
  split
  · exact hd
  · split
    · rename_i hk2
      rw [Int.natAbs_neg]
      have := List.idxOf_lt_length_iff.2 hk2
      exact hnum _ (by omega) free h1
    · simp
theorem nullL_prim {M : List (List Int)} {n : Nat} {B : Int} (hf : Fit M n B) {v : List Int} (h : v ∈ nullL M n) : prim v = v := by
  have hs := hf.small
  obtain ⟨f, rfl, hb⟩ := nullL_bd hf h (b := 2121320344) (by omega)
  rw [prim_rowL fun k hk => by have := primF_bd (n := n) (f := f) hb hk; omega]
  exact rowL_congr fun k hk => primF_self hk
theorem wrap_zero {x : Int} (h : x % 18446744073709551616 = 0) : wrap64 x = 0 := by unfold wrap64; omega
theorem wrap_mod (x : Int) : wrap64 x % 18446744073709551616 = x % 18446744073709551616 := by unfold wrap64; omega
theorem wrap_self (x : Int) : wrap64 (wrap64 x) = wrap64 x := by unfold wrap64; omega
theorem dot_zero {n : Nat} {f g : Nat → Int} (h : dt n f g = 0) : dot (rowL n g) (rowL n f) = 0 := by
  have key : ∀ j, j ≤ n → dotTo (rowL n f) (rowL n g) j % 18446744073709551616 = dt j f g % 18446744073709551616 ∧ wrap64 (dotTo (rowL n f) (rowL n g) j) = dotTo (rowL n f) (rowL n g) j := by
    intro j
    induction j with
    | zero => intro _; exact ⟨rfl, by unfold dotTo wrap64; rfl⟩
    | succ j ih =>
      intro hj
      obtain ⟨h1, h2⟩ := ih (by omega)
      unfold dotTo
      refine ⟨?_, wrap_self _⟩
      rw [wrap_mod, rowL_get (show j < n by omega), rowL_get (show j < n by omega)]
      simp only [Option.getD_some, dt]
      have h3 := wrap_mod (f j * g j)
      omega
  have h4 := key n (Nat.le_refl _)
  unfold dot
  rw [rowL_length, ← h4.2]
  refine wrap_zero ?_
  rw [h4.1, h]; rfl
theorem nullM_times {M : List (List Int)} (hm : isMat M = true) {v : List Int} (h : v ∈ nullM M) : ∀ x ∈ timesV M v, x = 0 := by
  unfold nullM at h
  rw [if_pos hm] at h
  obtain ⟨f, rfl, hk⟩ := nullL_ker h
  intro x hx
  unfold timesV at hx
  rw [if_pos ⟨hm, rowL_length _ _⟩] at hx
  obtain ⟨r, hr, rfl⟩ := List.mem_map.1 hx
  obtain ⟨i, hi⟩ := List.getElem?_of_mem hr
  have h1 := isMat_get hm hi
  rw [← rowL_ent hi h1.1]
  exact dot_zero (hk i (lt_of_getElem? hi))
theorem nullM_prim {M : List (List Int)} {v : List Int} (h : v ∈ nullM M) : prim v = v := by
  unfold nullM at h
  split at h
  · rename_i hm
    exact nullL_prim (fit_mat hm) h
  · exact absurd h (by simp)
theorem nullM_cnt {M : List (List Int)} (hm : isMat M = true) : rankM M + ((nullM M).length : Int) = width M := by
  unfold rankM nullM
  rw [if_pos hm, if_pos hm]
  have := nullL_cnt M (width M)
  omega
theorem turnL_get {M : List (List Int)} {n k : Nat} (hk : k < n) : (turnL M n)[k]? = some (colL M M.length k) := by
  unfold turnL
  rw [List.getElem?_map, List.getElem?_range hk]; rfl
theorem rankM_tr {M : List (List Int)} (hm : isMat M = true) (ht : isMat (trmL M) = true) : rankM (trmL M) = rankM M := by
  have hf := fit_mat hm
  have e0 : trmL M = turnL M (width M) := by unfold trmL; rw [if_pos hm]
  have hw : width (turnL M (width M)) = M.length := by
    unfold width
    have h1 := turnL_get (M := M) (n := width M) hf.n0
    have h2 : (turnL M (width M)).headD [] = colL M M.length 0 := by
      cases h3 : turnL M (width M) with
      | nil => rw [h3] at h1; simp at h1
      | cons a l => rw [h3] at h1; simpa using h1
    show ((turnL M (width M)).headD []).length = M.length
    rw [h2]
    unfold colL
    exact rowL_length _ _
  have hl : (turnL M (width M)).length = width M := by simp [turnL]
  unfold rankM
  rw [if_pos ht, if_pos hm, e0, hw]
  congr 1
  unfold rankN
  rw [hl]
  exact rank_tr fun i hi k hk => by
    have h1 := turnL_get (M := M) hk
    conv => lhs; unfold entF
    rw [h1, Option.getD_some]
    unfold colL
    rw [rowL_get hi, Option.getD_some]
theorem gcdZ_comm (a b : Int) : gcdZ a b = gcdZ b a := by
  unfold gcdZ
  rw [Bool.and_comm, Nat.gcd_comm]
end Go.Proofs.Ytfdhbbhfilkafaa
