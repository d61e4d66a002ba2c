/- Reading an argument of type []laws.Bar (written by rdgen.py). -/
import Derived.Test.YtfdhbbhfilkafaaBars
import Derived.Test.YtfdhbbhfilkafaaRdStruct
namespace Go.Proofs.Ytfdhbbhfilkafaa
open Go.ChangeShapes Go.WideShapes Go.ChangeAt Go.RowKit Go.Deep
set_option maxRecDepth 100000
set_option linter.unusedVariables false
set_option linter.unusedSimpArgs false

theorem BarsAt_of {W : World} {a : Option Addr} {len : Nat} (h : ∀ k, k < len → ∃ b off, a = some ⟨b, off, none⟩ ∧ b < W.heap.size ∧ ∀ j, j < 2 → ∃ n : Int, W.cell? ⟨b, off + (k * 2 + j), none⟩ = some (.int .i64 n) ∧ -9223372036854775808 ≤ n ∧ n ≤ 9223372036854775807) :
    ∃ l : List BarT, BarsAt W a len l ∧ ∀ x ∈ l, (-9223372036854775808 ≤ x.1 ∧ x.1 ≤ 9223372036854775807) ∧ (-9223372036854775808 ≤ x.2 ∧ x.2 ≤ 9223372036854775807) := by
  have h' : ∀ k, k < len → ∃ x : BarT, (∃ b off, a = some ⟨b, off, none⟩ ∧ b < W.heap.size ∧ W.cell? ⟨b, off + (k * 2 + 0), none⟩ = some (.int .i64 x.1) ∧ W.cell? ⟨b, off + (k * 2 + 1), none⟩ = some (.int .i64 x.2)) ∧ (-9223372036854775808 ≤ x.1 ∧ x.1 ≤ 9223372036854775807) ∧ (-9223372036854775808 ≤ x.2 ∧ x.2 ≤ 9223372036854775807) := by
    intro k hk
    obtain ⟨b, off, ha, hb, hj⟩ := h k hk

    obtain ⟨n0, c0, w0⟩ := hj 0 (by omega)
    obtain ⟨n1, c1, w1⟩ := hj 1 (by omega)
    exact ⟨(n0, n1), ⟨b, off, ha, hb, c0, c1⟩, w0, w1⟩
  obtain ⟨D, hD⟩ := choose_lt h'
  refine ⟨(List.range len).map D, ⟨by simp, fun k hk => ?_⟩, ?_⟩
  · obtain ⟨⟨b, off, ha, hb, c0, c1⟩, _⟩ := hD k hk
    refine ⟨b, off, D k, ha, hb, by simp [hk], ?_, ?_⟩
    · simpa [Nat.add_assoc] using c0
    · simpa [Nat.add_assoc] using c1
  · intro x hx
    obtain ⟨k, hk, rfl⟩ := List.mem_map.1 hx
    exact (hD k (List.mem_range.1 hk)).2

theorem rd_bars {H : Type} {enc : TypeId × Value → H} {W : World} {b0 base : Nat} {spare : Nat → Bool} {held : Bool} {r : Reach} {v : Value} {d : DataW H} {p : List MemPlace}
    (hv : Value.okWide Try.prog W r b0 49 v) (h : DataW.Trod enc Try.prog W base spare held 49 v d p) : ∃ x, IsBars W v x ∧ OkBars x := by
  obtain ⟨a, len, cap, rfl, hl, hk⟩ := int_structs (f := 2) Try.underlying108 (by kernel_rfl) (by kernel_rfl) (by kernel_rfl) rfl (by omega) Try.underlying49 hv h
  obtain ⟨l, hat, hb⟩ := BarsAt_of hk
  obtain rfl := hat.1
  exact ⟨l, ⟨a, cap, rfl, hat⟩, hl, hb⟩
end Go.Proofs.Ytfdhbbhfilkafaa
