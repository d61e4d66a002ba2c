/- The first answer of some tries. Plain. -/
import Derived.Test.YtfbmpkdjhhcnpaaGreatSnP01
namespace Go.Proofs.YtfbmpkdjhhcnpaaGreat
set_option linter.unusedVariables false
set_option linter.unusedSimpArgs false
def firstS {β : Type} (f : Nat → Option β) : Nat → Option β
 | 0 => none
 | k + 1 => match firstS f k with
  | some r => some r
  | none => f k
theorem firstS_none {β : Type} {f : Nat → Option β} : ∀ k, (∀ j, j < k → f j = none) → firstS f k = none
 | 0, _ => rfl
 | k + 1, h => by
  unfold firstS
  rw [firstS_none k fun j hj => h j (by omega)]
  exact h k (by omega)
theorem firstS_all {β : Type} {f : Nat → Option β} : ∀ k, firstS f k = none → ∀ j, j < k → f j = none
 | 0, _, j, hj => absurd hj (Nat.not_lt_zero _)
 | k + 1, h, j, hj => by
  unfold firstS at h
  cases h1 : firstS f k with
  | some r => rw [h1] at h; simp at h
  | none =>
   rw [h1] at h
   by_cases e : j = k
   ·subst e; exact h
   ·exact firstS_all k h1 j (by omega)
theorem firstS_hit {β : Type} {f : Nat → Option β} {i : Nat} {r : β} (hn : ∀ j, j < i → f j = none) (hi : f i = some r) : ∀ k, i < k → firstS f k = some r
 | 0, h => absurd h (Nat.not_lt_zero _)
 | k + 1, h => by
  unfold firstS
  by_cases e : i = k
  ·subst e
   rw [firstS_none i hn]
   exact hi
  ·rw [firstS_hit hn hi k (by omega)]
theorem firstS_some {β : Type} {f : Nat → Option β} {r : β} : ∀ k, firstS f k = some r → ∃ i, i < k ∧ f i = some r
 | 0, h => by simp [firstS] at h
 | k + 1, h => by
  unfold firstS at h
  cases h1 : firstS f k with
  | some r' =>
   rw [h1] at h
   obtain ⟨i, hi, hf⟩ := firstS_some k h1
   exact ⟨i, by omega, by rw [hf]; exact h⟩
  | none =>
   rw [h1] at h
   exact ⟨k, by omega, h⟩
end Go.Proofs.YtfbmpkdjhhcnpaaGreat

