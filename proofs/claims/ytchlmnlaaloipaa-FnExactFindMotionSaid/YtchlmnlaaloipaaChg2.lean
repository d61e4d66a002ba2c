/- ChangeOf of the program. -/
import Derived.Test.YtchlmnlaaloipaaChg
import Derived.Deep.RegionHeld3
namespace Go.Proofs.Ytchlmnlaaloipaa
open Go.RowKit
set_option maxRecDepth 100000
set_option linter.unusedVariables false
set_option linter.unusedSimpArgs false

theorem spec_ChangeOf (W : World) (v0 : Value) (f : FwT) (h : IsFw W v0 f) (v1 : Value) (v : List Int) (hv : IsInts W v1 v) (i j : Int) (hn : szFw f ≤ 1048576) (hvn : v.length ≤ 1048576) :
    Calls Try.prog 63 #[v0, v1, .int .i64 i, .int .i64 j] W fun e w' => e = .returned (.int .i64 (changeF f v i j)) ∧ Below W.heap.size W w' := by
  obtain ⟨p, l, q⟩ := f
  obtain ⟨a, cap, c, capc, rfl, hi, hj⟩ := h
  obtain ⟨va, vc, rfl, hvi⟩ := hv
  exact specChange_at _ _ _ _ _ _ _ _ hi hj hn _ _ _ _ hvi (by omega) i j
end Go.Proofs.Ytchlmnlaaloipaa
