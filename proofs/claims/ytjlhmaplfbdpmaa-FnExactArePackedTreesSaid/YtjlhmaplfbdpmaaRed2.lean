/- The program's elimination without fractions: what 'reduced' hands back. Conditions: a matrix of at most 64 rows and columns; the numbers that arise are small (SOk), which Eli proves. -/
import Derived.Test.YtjlhmaplfbdpmaaRed
import Derived.StillTailTactics
import Derived.IntWalk
import Derived.OwnWalk
namespace Go.Proofs.Ytjlhmaplfbdpmaa
open Go.RowKit Gr
set_option maxRecDepth 100000
set_option linter.unusedVariables false
set_option linter.unusedSimpArgs false

theorem redF_stop {m : Nat} {F : Nat → Nat → Int} {c : Nat} (h : m ≤ (redF m F c).P.length) {e : Nat} (he : c ≤ e) : redF m F e = redF m F c := by
  induction e with
  | zero => obtain rfl : c = 0 := by omega
            rfl
  | succ e ih =>
    by_cases e1 : c = e + 1
    · rw [e1]
    · have h1 := ih (by omega)
      show stepF m e (redF m F e) = _
      rw [h1]
      unfold stepF
      rw [if_neg (by omega)]
theorem redF_len {m : Nat} (F : Nat → Nat → Int) (c : Nat) : (redF m F c).P.length ≤ m := by
  obtain ⟨X, h⟩ := Inv.all (m := m) (n := c) F (c := c) (Nat.le_refl _)
  exact h.len
theorem prod_bd {x y : Int} (h1 : -2121320343 ≤ x ∧ x ≤ 2121320343) (h2 : -2121320343 ≤ y ∧ y ≤ 2121320343) : -4499999997638437649 ≤ x * y ∧ x * y ≤ 4499999997638437649 := by
  have a : (2121320343 - x) * (2121320343 - y) ≥ 0 := Int.mul_nonneg (by omega) (by omega)
  have b : (2121320343 + x) * (2121320343 + y) ≥ 0 := Int.mul_nonneg (by omega) (by omega)
  have c : (2121320343 - x) * (2121320343 + y) ≥ 0 := Int.mul_nonneg (by omega) (by omega)
  have d : (2121320343 + x) * (2121320343 - y) ≥ 0 := Int.mul_nonneg (by omega) (by omega)
  rw [Int.sub_mul, Int.mul_sub, Int.mul_sub] at a
  rw [Int.add_mul, Int.mul_add, Int.mul_add] at b
  rw [Int.sub_mul, Int.mul_add, Int.mul_add] at c
  rw [Int.add_mul, Int.mul_sub, Int.mul_sub] at d
  generalize x * y = z at *
  omega

def RetRed (W : World) (m n : Nat) (s : ES) (e : Ending) (w' : World) : Prop :=
  ∃ va vp, e = .returned (.tuple #[va, vp, .int .i64 s.d]) ∧ OwnIntss w' W.heap.size va (toLL s.F m n) ∧ OwnInts w' W.heap.size vp (s.P.map Int.ofNat) ∧ Below W.heap.size W w'

end Go.Proofs.Ytjlhmaplfbdpmaa
