/- The contracts of ComponentsOf for the law: both sides return the same list of sets, whose size is small. No condition but sizes. -/
import Derived.Test.YtmfeabfbhaiaeaaCms
namespace Go.Proofs.Ytmfeabfbhaiaeaa
open Go.RowKit
set_option maxRecDepth 100000
set_option linter.unusedVariables false
set_option linter.unusedSimpArgs false

theorem sumLen_le {m : Nat} : ∀ {ll : List (List Int)}, (∀ r ∈ ll, r.length ≤ m) → sumLen ll ≤ ll.length * m
  | [], _ => by simp [sumLen]
  | r :: ll, h => by
    have h1 := sumLen_le (ll := ll) fun x hx => h x (List.mem_cons_of_mem _ hx)
    have h2 := h r (List.mem_cons_self ..)
    simp only [sumLen, List.map_cons, List.sum_cons, List.length_cons, Nat.succ_mul] at h1 ⊢
    omega
theorem cmpO_sz (g : GraphT) : szIntss (cmpO g) ≤ 1048576 := by
  unfold cmpO
  split
  · rename_i h
    have h1 := (isGraphB_bd h).1
    have h2 := (isGraphB_bd h).2
    have h3 := cmpL_len g g.2.length
    have h4 := sumLen_le (cmpL_row g g.2.length)
    unfold szIntss
    have h5 : g.1.toNat ≤ 8 := by omega
    have h6 : (cmpL g g.2.length).length * g.1.toNat ≤ 24 * 8 := Nat.mul_le_mul (by omega) h5
    omega
  · decide
theorem spec_ComponentsOf (W : World) (v : Value) (g : GraphT) (h : IsGraph W v g) (hn : szGraph g ≤ 1048576) : Calls Try.prog 14 #[v] W (RetIntss W (cmpO g)) := by
  obtain ⟨p, l⟩ := g
  obtain ⟨a, cap, rfl, hi⟩ := h
  exact specCmp_at _ _ _ _ _ hi hn
theorem impl_ComponentsOf (W : World) (v : Value) (g : GraphT) (h : IsGraph W v g) (hn : szGraph g ≤ 1048576) : Calls Try.prog 16 #[v] W (RetIntss W (cmpO g)) := by
  obtain ⟨p, l⟩ := g
  obtain ⟨a, cap, rfl, hi⟩ := h
  exact implCmp_at _ _ _ _ _ hi hn
end Go.Proofs.Ytmfeabfbhaiaeaa
