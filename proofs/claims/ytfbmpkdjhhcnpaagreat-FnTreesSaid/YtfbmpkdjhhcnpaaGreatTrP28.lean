/- The reference's elimination: what 'l9Reduced' hands back. Conditions: a matrix of at most 64 rows and columns; small numbers. -/
import Derived.Test.YtfbmpkdjhhcnpaaGreatTrP27
import Derived.Test.YtfbmpkdjhhcnpaaGreatTrP04
import Derived.Test.YtfbmpkdjhhcnpaaGreatTrP02
namespace Go.Proofs.YtfbmpkdjhhcnpaaGreat
open Go.RowKit Gr
set_option maxRecDepth 100000
set_option linter.unusedVariables false
set_option linter.unusedSimpArgs false

end Go.Proofs.YtfbmpkdjhhcnpaaGreat

namespace Go.Proofs.YtfbmpkdjhhcnpaaGreat
open Go.RowKit Gr
set_option maxRecDepth 100000
set_option linter.unusedVariables false
set_option linter.unusedSimpArgs false

theorem sq_small {x B : Int} (h : x * x ≤ B) (hB : B ≤ 4500000000000000000) : -2121320343 ≤ x ∧ x ≤ 2121320343 := by
  constructor
  · rcases Int.lt_or_le x (-2121320343) with h1 | h1
    · have h2 : 0 ≤ (-2121320344 - x) * (-2121320344 - x) := Gr.mul_self_nonneg' _
      have h3 : 0 ≤ (-2121320344 - x) := by omega
      have h4 := Int.mul_nonneg h3 (show (0 : Int) ≤ 2121320344 by omega)
      rw [Int.sub_mul, Int.mul_sub, Int.mul_sub] at h2
      rw [Int.sub_mul] at h4
      generalize x * x = z at *
      omega
    · exact h1
  · rcases Int.lt_or_le 2121320343 x with h1 | h1
    · have h3 : 0 ≤ (x - 2121320344) := by omega
      have h2 : 0 ≤ (x - 2121320344) * (x - 2121320344) := Gr.mul_self_nonneg' _
      have h4 := Int.mul_nonneg h3 (show (0 : Int) ≤ 2121320344 by omega)
      rw [Int.sub_mul, Int.mul_sub, Int.mul_sub] at h2
      rw [Int.sub_mul] at h4
      generalize x * x = z at *
      omega
    · exact h1
theorem SOk_of {m n : Nat} {F : Nat → Nat → Int} {B : Int} (hB : Bnd m n F B) (hb : B ≤ 4500000000000000000) {c : Nat} (hc : c ≤ n) :
    SOk m n (redF m F c) ∧ ∀ i, i < m → ∀ k, k < n → -2121320343 ≤ (redS m n F c).S i k ∧ (redS m n F c).S i k ≤ 2121320343 := by
  obtain ⟨X, hI⟩ := Inv.all (m := m) (n := n) F hc
  have h1 : ∀ i, i < m → ∀ k, k < n → -2121320343 ≤ (redF m F c).F i k ∧ (redF m F c).F i k ≤ 2121320343 := fun i hi k hk => sq_small (hB.num hI hi hk) hb
  refine ⟨⟨hI.nz, sq_small (hB.last hI) hb, h1⟩, fun i hi k hk => ?_⟩
  rw [(red_sim (m := m) F hc).2 i hi k hk]
  have h2 := primF_bd (n := n) (f := (redF m F c).F i) (b := 2121320343) (fun k hk => by have := h1 i hi k hk; omega) hk
  omega

/-- both, for a matrix whose minors are small -/
structure Fit (M : List (List Int)) (n : Nat) (B : Int) : Prop where
  rect : ∀ r ∈ M, r.length = n
  m64 : M.length ≤ 64
  n0 : 0 < n
  n64 : n ≤ 64
  bnd : Bnd M.length n (entF M) B
  small : B ≤ 4500000000000000000
theorem Fit.num {M : List (List Int)} {n : Nat} {B : Int} (h : Fit M n B) : ∀ i, i < M.length → ∀ k, k < n → -9000000000000000000 ≤ entF M i k ∧ entF M i k ≤ 9000000000000000000 := by
  intro i hi k hk
  have := (SOk_of h.bnd h.small (Nat.zero_le n)).1.2.2 i hi k hk
  have e : (redF M.length (entF M) 0).F = entF M := rfl
  rw [e] at this
  omega
end Go.Proofs.YtfbmpkdjhhcnpaaGreat

namespace Go.Proofs.YtfbmpkdjhhcnpaaGreat
open Go.RowKit
set_option maxRecDepth 100000
set_option linter.unusedVariables false
set_option linter.unusedSimpArgs false

end Go.Proofs.YtfbmpkdjhhcnpaaGreat

