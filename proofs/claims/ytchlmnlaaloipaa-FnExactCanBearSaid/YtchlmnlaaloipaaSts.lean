/- StressesOf of the program and of the reference. No condition but sizes. -/
import Derived.Test.YtchlmnlaaloipaaTrn
import Derived.Test.YtchlmnlaaloipaaTrp
import Derived.Deep.RegionHeld3
namespace Go.Proofs.Ytchlmnlaaloipaa
open Go.RowKit Gr
set_option maxRecDepth 100000
set_option linter.unusedVariables false
set_option linter.unusedSimpArgs false

theorem turnL_length (M : List (List Int)) (n : Nat) : (turnL M n).length = n := by simp [turnL]
theorem turnL_get {M : List (List Int)} {n j : Nat} (h : j < n) : (turnL M n)[j]? = some (rowL M.length fun i => entF M i j) := by simp [turnL, h, colL]
theorem entF_turn {M : List (List Int)} {n i j : Nat} (hj : j < n) (hi : i < M.length) : entF (turnL M n) j i = entF M i j := entF_rowL (turnL_get hj) hi
theorem fit_turn {p : Int} {l : List BarT} {q : List PlaceT} (h : isFwB (p, l, q) = true) (hl : 0 < l.length) : Fit (turnL (rigM (p, l, q)) (2 * p.toNat)) l.length (64 ^ 10) := by
  have e : rigM (p, l, q) = l.map (rigRow p q) := by simp only [rigM, h]; rfl
  obtain ⟨⟨h1, h2⟩, h3, h4, h5, h6⟩ := isFw_facts h
  have hlen := rigM_len h
  have hrow : ∀ i, i < l.length → ∃ x, x ∈ l ∧ (rigM (p, l, q))[i]? = some (rowL (2 * p.toNat) (rigF q x)) := fun i hi => ⟨l[i], List.getElem_mem hi, by rw [e, List.getElem?_map, List.getElem?_eq_getElem hi]; rfl⟩
  have hcol : ∀ k, k < l.length → ∃ x, x ∈ l ∧ ∀ i, i < 2 * p.toNat → entF (turnL (rigM (p, l, q)) (2 * p.toNat)) i k = rigF q x i := fun k hk => by
    obtain ⟨x, hx, hr⟩ := hrow k hk
    exact ⟨x, hx, fun i hi => by rw [entF_turn hi (by omega), entF_rowL hr hi]⟩
  refine ⟨fun r hr => ?_, by rw [turnL_length]; omega, hl, by omega, ?_, by decide⟩
  · obtain ⟨j, _, rfl⟩ := List.mem_map.1 hr
    rw [colL_length]; exact hlen
  · rw [turnL_length]
    refine Bnd.mono (Bnd.byCols (L := 0) (B := 64) (by decide) (fun k hk => ?_) [tr0, tr1] (fun t ht k hk => ?_) ?_ (fun t ht => ?_)) (pow_mono (B := 64) (by decide) (show 2 * p.toNat - [tr0, tr1].length ≤ 10 by simp; omega))
    · obtain ⟨x, hx, hr⟩ := hcol k hk
      rw [sq_ext fun i hi => hr i hi]
      exact (rig_sq h hx).1
    · obtain ⟨x, hx, hr⟩ := hcol k hk
      rw [dt_ext fun i hi => hr i hi]
      simp only [List.mem_cons, List.not_mem_nil, or_false] at ht
      rcases ht with rfl | rfl
      · exact (rig_sq h hx).2.1
      · exact (rig_sq h hx).2.2
    · simp [tr_dt]
    · simp only [List.mem_cons, List.not_mem_nil, or_false] at ht
      rcases ht with rfl | rfl
      · have := sq_at (show 0 < 2 * p.toNat by omega) tr0
        have e2 : tr0 0 * tr0 0 = 1 := rfl
        omega
      · have := sq_at (show 1 < 2 * p.toNat by omega) tr1
        have e2 : tr1 1 * tr1 1 = 1 := rfl
        omega
def strL (f : FwT) : List (List Int) := if (isFwB f && decide (0 < f.2.1.length)) = true then nullL (turnL (rigM f) (2 * f.1.toNat)) f.2.1.length else []
theorem strL_sz (f : FwT) : szIntss (strL f) ≤ 1048576 := by
  obtain ⟨p, l, q⟩ := f
  unfold strL
  split
  · rename_i h
    simp only [Bool.and_eq_true, decide_eq_true_eq] at h
    have h1 := (fit_turn h.1 h.2).n64
    have h2 := nullL_len (turnL (rigM (p, l, q)) (2 * p.toNat)) l.length
    have h3 := nullL_sum (turnL (rigM (p, l, q)) (2 * p.toNat)) l.length
    have h4 : l.length * l.length ≤ 64 * 64 := Nat.mul_le_mul h1 h1
    unfold szIntss; dsimp only; omega
  · decide

end Go.Proofs.Ytchlmnlaaloipaa
