/- NullspaceOf of the program and of the reference. No condition but sizes. -/
import Derived.Test.YtchlmnlaaloipaaNulS2
namespace Go.Proofs.Ytchlmnlaaloipaa
open Go.RowKit Gr
set_option maxRecDepth 100000
set_option linter.unusedVariables false
set_option linter.unusedSimpArgs false

def nullM (M : List (List Int)) : List (List Int) := if isMat M = true then nullL M (width M) else []
theorem nullL_len (M : List (List Int)) (n : Nat) : (nullL M n).length ≤ n := by
  unfold nullL nullTo; rw [List.length_map]; exact freeTo_len _ _
theorem nullL_sum (M : List (List Int)) (n : Nat) : sumLen (nullL M n) ≤ n * n := by
  have h : sumLen (nullL M n) = (nullL M n).length * n := by
    unfold nullL nullTo
    generalize freeTo (redF M.length (entF M) n).P n = l
    induction l with
    | nil => simp [sumLen]
    | cons x l ih =>
      simp only [sumLen, List.map_cons, List.sum_cons, List.length_cons, rowL_length] at ih ⊢
      rw [ih, Nat.succ_mul]; omega
  rw [h]
  exact Nat.mul_le_mul_right _ (nullL_len M n)
theorem nullM_sz (M : List (List Int)) : szIntss (nullM M) ≤ 1048576 := by
  unfold nullM
  split
  · rename_i h
    have h1 := (fit_mat h).n64
    have h2 := nullL_len M (width M)
    have h3 := nullL_sum M (width M)
    have h4 : width M * width M ≤ 64 * 64 := Nat.mul_le_mul h1 h1
    unfold szIntss; omega
  · decide

theorem made_intss (W : World) : OwnIntss (W.alloc (.cells #[] 28)) W.heap.size (.slice (some ⟨W.heap.size, 0, none⟩) 0 0) [] := ⟨[], World.ownsRow_made W #[] 0 (Nat.le_refl _) (Nat.zero_le _) rfl, IRows.nil _ _⟩

end Go.Proofs.Ytchlmnlaaloipaa
