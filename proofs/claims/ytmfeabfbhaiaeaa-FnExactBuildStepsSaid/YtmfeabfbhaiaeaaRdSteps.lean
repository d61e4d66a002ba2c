/- Reading an argument of type []laws.Step (written by rdgen.py). -/
import Derived.Test.YtmfeabfbhaiaeaaSteps
import Derived.Test.YtmfeabfbhaiaeaaRdStruct
namespace Go.Proofs.Ytmfeabfbhaiaeaa
open Go.ChangeShapes Go.WideShapes Go.ChangeAt Go.RowKit Go.Deep
set_option maxRecDepth 100000
set_option linter.unusedVariables false
set_option linter.unusedSimpArgs false

theorem StepsAt_of {W : World} {a : Option Addr} {len : Nat} (h : ∀ k, k < len → ∃ b off, a = some ⟨b, off, none⟩ ∧ b < W.heap.size ∧ ∀ j, j < 5 → ∃ n : Int, W.cell? ⟨b, off + (k * 5 + j), none⟩ = some (.int .i64 n) ∧ -9223372036854775808 ≤ n ∧ n ≤ 9223372036854775807) :
    ∃ l : List StepT, StepsAt W a len l ∧ ∀ x ∈ l, (-9223372036854775808 ≤ x.1 ∧ x.1 ≤ 9223372036854775807) ∧ (-9223372036854775808 ≤ x.2.1 ∧ x.2.1 ≤ 9223372036854775807) ∧ (-9223372036854775808 ≤ x.2.2.1 ∧ x.2.2.1 ≤ 9223372036854775807) ∧ (-9223372036854775808 ≤ x.2.2.2.1 ∧ x.2.2.2.1 ≤ 9223372036854775807) ∧ (-9223372036854775808 ≤ x.2.2.2.2 ∧ x.2.2.2.2 ≤ 9223372036854775807) := by
  have h' : ∀ k, k < len → ∃ x : StepT, (∃ b off, a = some ⟨b, off, none⟩ ∧ b < W.heap.size ∧ W.cell? ⟨b, off + (k * 5 + 0), none⟩ = some (.int .i64 x.1) ∧ W.cell? ⟨b, off + (k * 5 + 1), none⟩ = some (.int .i64 x.2.1) ∧ W.cell? ⟨b, off + (k * 5 + 2), none⟩ = some (.int .i64 x.2.2.1) ∧ W.cell? ⟨b, off + (k * 5 + 3), none⟩ = some (.int .i64 x.2.2.2.1) ∧ W.cell? ⟨b, off + (k * 5 + 4), none⟩ = some (.int .i64 x.2.2.2.2)) ∧ (-9223372036854775808 ≤ x.1 ∧ x.1 ≤ 9223372036854775807) ∧ (-9223372036854775808 ≤ x.2.1 ∧ x.2.1 ≤ 9223372036854775807) ∧ (-9223372036854775808 ≤ x.2.2.1 ∧ x.2.2.1 ≤ 9223372036854775807) ∧ (-9223372036854775808 ≤ x.2.2.2.1 ∧ x.2.2.2.1 ≤ 9223372036854775807) ∧ (-9223372036854775808 ≤ x.2.2.2.2 ∧ x.2.2.2.2 ≤ 9223372036854775807) := by
    intro k hk
    obtain ⟨b, off, ha, hb, hj⟩ := h k hk

    obtain ⟨n0, c0, w0⟩ := hj 0 (by omega)
    obtain ⟨n1, c1, w1⟩ := hj 1 (by omega)
    obtain ⟨n2, c2, w2⟩ := hj 2 (by omega)
    obtain ⟨n3, c3, w3⟩ := hj 3 (by omega)
    obtain ⟨n4, c4, w4⟩ := hj 4 (by omega)
    exact ⟨(n0, n1, n2, n3, n4), ⟨b, off, ha, hb, c0, c1, c2, c3, c4⟩, w0, w1, w2, w3, w4⟩
  obtain ⟨D, hD⟩ := choose_lt h'
  refine ⟨(List.range len).map D, ⟨by simp, fun k hk => ?_⟩, ?_⟩
  · obtain ⟨⟨b, off, ha, hb, c0, c1, c2, c3, c4⟩, _⟩ := hD k hk
    refine ⟨b, off, D k, ha, hb, by simp [hk], ?_, ?_, ?_, ?_, ?_⟩
    · simpa [Nat.add_assoc] using c0
    · simpa [Nat.add_assoc] using c1
    · simpa [Nat.add_assoc] using c2
    · simpa [Nat.add_assoc] using c3
    · simpa [Nat.add_assoc] using c4
  · intro x hx
    obtain ⟨k, hk, rfl⟩ := List.mem_map.1 hx
    exact (hD k (List.mem_range.1 hk)).2

theorem rd_steps {H : Type} {enc : TypeId × Value → H} {W : World} {b0 base : Nat} {spare : Nat → Bool} {held : Bool} {r : Reach} {v : Value} {d : DataW H} {p : List MemPlace}
    (hv : Value.okWide Try.prog W r b0 55 v) (h : DataW.Trod enc Try.prog W base spare held 55 v d p) : ∃ x, IsSteps W v x ∧ OkSteps x := by
  obtain ⟨a, len, cap, rfl, hl, hk⟩ := int_structs (f := 5) Try.underlying49 (by kernel_rfl) (by kernel_rfl) (by kernel_rfl) rfl (by omega) Try.underlying55 hv h
  obtain ⟨l, hat, hb⟩ := StepsAt_of hk
  obtain rfl := hat.1
  exact ⟨l, ⟨a, cap, rfl, hat⟩, hl, hb⟩
end Go.Proofs.Ytmfeabfbhaiaeaa
