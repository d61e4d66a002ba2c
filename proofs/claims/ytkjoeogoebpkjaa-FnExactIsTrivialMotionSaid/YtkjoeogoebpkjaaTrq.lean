/- IsTrivialMotion of the program: its contract. No condition but sizes. -/
import Derived.Test.YtkjoeogoebpkjaaTrx
namespace Go.Proofs.Ytkjoeogoebpkjaa
open Go.RowKit Gr
set_option linter.unusedVariables false
theorem impl_IsTrivialMotion (W : World) (v0 : Value) (f : FwT) (h : IsFw W v0 f) (v1 : Value) (v : List Int) (hv : IsInts W v1 v) (hn : szFw f ≤ 1048576) (hvn : v.length ≤ 1048576) :
    Calls Try.prog 32 #[v0, v1] W fun e w' => e = .returned (.bool (trivB f v)) ∧ Below W.heap.size W w' := by
  obtain ⟨p, l, q⟩ := f
  obtain ⟨a, cap, c, capc, rfl, hi, hj⟩ := h
  obtain ⟨va, vcap, rfl, hvi⟩ := hv
  exact implTrv_at _ _ _ _ _ _ _ _ hi hj hn _ _ _ _ hvi hvn
end Go.Proofs.Ytkjoeogoebpkjaa
