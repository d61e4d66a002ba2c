/- The size of the rigidity matrix. No condition. -/
import Derived.Test.YtkjoeogoebpkjaaRigFit
namespace Go.Proofs.Ytkjoeogoebpkjaa
open Go.RowKit Gr
set_option linter.unusedVariables false
theorem rigM_sz (f : FwT) : szIntss (rigM f) ≤ 1048576 := by
  obtain ⟨p, l, q⟩ := f
  cases h : isFwB (p, l, q)
  · have e : rigM (p, l, q) = [] := by simp only [rigM, h]; rfl
    rw [e]; decide
  · have e : rigM (p, l, q) = l.map (rigRow p q) := by simp only [rigM, h]; rfl
    obtain ⟨⟨h1, h2⟩, h3, h4, _, _⟩ := isFw_facts h
    have h5 : ∀ m : List BarT, sumLen (m.map (rigRow p q)) = m.length * (2 * p.toNat) := fun m => by
      induction m with
      | nil => simp [sumLen]
      | cons x m ih =>
        have hx : (rigRow p q x).length = 2 * p.toNat := by unfold rigRow; rw [rowL_length]
        generalize 2 * p.toNat = w at *
        simp only [sumLen, List.map_cons, List.sum_cons, List.length_cons, hx] at ih ⊢
        rw [ih, Nat.succ_mul]; omega
    have h6 : l.length * (2 * p.toNat) ≤ 15 * 12 := Nat.mul_le_mul h4 (by omega)
    have h7 := h5 l
    rw [e]
    unfold szIntss
    rw [List.length_map]; omega
end Go.Proofs.Ytkjoeogoebpkjaa
