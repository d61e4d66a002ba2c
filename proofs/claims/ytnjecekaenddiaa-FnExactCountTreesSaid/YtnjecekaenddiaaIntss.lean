/- The law's helpers on slices of slices of ints. No condition but sizes. -/
import Derived.Test.YtnjecekaenddiaaRows0
namespace Go.Proofs.Ytnjecekaenddiaa
open Go.RowKit
set_option maxRecDepth 100000
set_option linter.unusedVariables false
set_option linter.unusedSimpArgs false

def OkIntss (ll : List (List Int)) : Prop := ll.length ≤ 9223372036854775807 ∧ ∀ r ∈ ll, r.length ≤ 9223372036854775807 ∧ ∀ x ∈ r, -9223372036854775808 ≤ x ∧ x ≤ 9223372036854775807

theorem mem_set_sub {α : Type} {l : List α} {k : Nat} {x u : α} (h : u ∈ l.set k x) : u ∈ l ∨ u = x := by
  rcases List.mem_or_eq_of_mem_set h with h | h
  · exact .inl h
  · exact .inr h

end Go.Proofs.Ytnjecekaenddiaa
