/- GcdOf of the program and of the reference: the greatest common divisor of the magnitudes, 0 beyond 9000000000000000000. No condition. -/
import Derived.Test.YtfbmpkdjhhcnpaaGreatTrP01
import Derived.Test.YtfbmpkdjhhcnpaaGreatTrP02
import Derived.Test.YtfbmpkdjhhcnpaaGreatTrP26
import Derived.Deep.RegionHeld3
namespace Go.Proofs.YtfbmpkdjhhcnpaaGreat
open Go.RowKit
set_option maxRecDepth 100000
set_option linter.unusedVariables false
set_option linter.unusedSimpArgs false

theorem gcd_step (p q : Nat) : Nat.gcd q (p % q) = Nat.gcd p q := by
  rw [Nat.gcd_comm p q, Nat.gcd_rec q p, Nat.gcd_comm]

/-- What holds of the two numbers at each round's head. -/
def GcdRel (a b : Int) (u v : Value) : Prop := ∃ m n : Nat, u = .int .i64 m ∧ v = .int .i64 n ∧ m ≤ 9000000000000000000 ∧ n ≤ 9000000000000000000 ∧ Nat.gcd m n = Nat.gcd a.natAbs b.natAbs

theorem GcdRel.start {a b x y : Int} (ha : x.natAbs = a.natAbs) (hb : y.natAbs = b.natAbs) (h0 : 0 ≤ x) (h1 : 0 ≤ y) (h2 : x ≤ 9000000000000000000) (h3 : y ≤ 9000000000000000000) : GcdRel a b (.int .i64 x) (.int .i64 y) := by
  obtain ⟨m, rfl⟩ := Int.eq_ofNat_of_zero_le h0
  obtain ⟨n, rfl⟩ := Int.eq_ofNat_of_zero_le h1
  exact ⟨m, n, rfl, rfl, by omega, by omega, by rw [← ha, ← hb]; rfl⟩

theorem GcdRel.next {a b : Int} {m n : Nat} (h2 : m ≤ 9000000000000000000) (h3 : n ≤ 9000000000000000000) (h : Nat.gcd m n = Nat.gcd a.natAbs b.natAbs) (hn : 0 < n) : GcdRel a b (.int .i64 (n : Int)) (.int .i64 ((m : Int) % (n : Int))) :=
  ⟨n, m % n, rfl, by simp, h3, by have := Nat.mod_le m n; omega, by rw [gcd_step, h]⟩

end Go.Proofs.YtfbmpkdjhhcnpaaGreat

namespace Go.Proofs.YtfbmpkdjhhcnpaaGreat
open Go.RowKit
set_option maxRecDepth 100000
set_option linter.unusedVariables false
set_option linter.unusedSimpArgs false

end Go.Proofs.YtfbmpkdjhhcnpaaGreat

namespace Go.Proofs.YtfbmpkdjhhcnpaaGreat
open Go.RowKit Gr
set_option maxRecDepth 100000
set_option linter.unusedVariables false
set_option linter.unusedSimpArgs false

theorem primF_bd {n : Nat} {f : Nat → Int} {b : Nat} (h : ∀ k, k < n → (f k).natAbs ≤ b) {k : Nat} (hk : k < n) : (primF n f k).natAbs ≤ b := by
  unfold primF
  split
  · exact h k hk
  · rw [Int.natAbs_tdiv]; exact Nat.le_trans (Nat.div_le_self _ _) (h k hk)

end Go.Proofs.YtfbmpkdjhhcnpaaGreat

