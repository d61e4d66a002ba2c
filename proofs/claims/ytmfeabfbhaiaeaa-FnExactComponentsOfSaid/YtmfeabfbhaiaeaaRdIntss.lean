/- Reading an argument of type [][]int. -/
import Derived.Test.YtmfeabfbhaiaeaaIntss
import Derived.ProofKit
import Derived.OpenShut
import Derived.Deep.Matrix
namespace Go.Proofs.Ytmfeabfbhaiaeaa
open Go.ChangeShapes Go.WideShapes Go.ChangeAt Go.RowKit Go.Deep
set_option maxRecDepth 100000
set_option linter.unusedVariables false
set_option linter.unusedSimpArgs false

theorem rd_intss {H : Type} {enc : TypeId × Value → H} {W : World} {b0 base : Nat} {held : Bool} {r : Reach} {v : Value} {d : DataW H} {p : List MemPlace}
    (hv : Value.okWide Try.prog W r b0 40 v) (h : DataW.Trod enc Try.prog W base (fun _ => true) held 40 v d p) : ∃ x, IsIntss W v x ∧ OkIntss x := by
  obtain ⟨a0, len0, cap0, rfl⟩ := okWide_slice Try.underlying40 hv
  obtain ⟨fuel, hf⟩ := h
  rcases open_int_rows Try.underlying40 Try.underlying73 Try.underlying3 (by kernel_rfl) (by kernel_rfl) hf with ⟨hcs, _⟩ | ⟨x, l, c, A, L, C, Z, hcs, _, hl, hm, _, hr⟩
  · simp [Value.cells] at hcs
    obtain ⟨rfl, rfl, rfl⟩ := hcs
    exact ⟨[], ⟨none, 0, rfl, rfl, fun k hk => absurd hk (Nat.not_lt_zero _)⟩, by simp, by simp⟩
  · simp [Value.cells] at hcs
    obtain ⟨rfl, rfl, rfl⟩ := hcs
    have hll : ((List.range len0).map fun i => (Z i).take (L i)).length = len0 := by simp
    have hget : ∀ k, k < len0 → ((List.range len0).map fun i => (Z i).take (L i))[k]? = some ((Z k).take (L k)) := fun k hk => by simp [hk]
    suffices hI : IntssAt W (some x) len0 ((List.range len0).map fun i => (Z i).take (L i)) from by
      refine ⟨(List.range len0).map fun i => (Z i).take (L i), ⟨some x, cap0, by rw [hll], by rw [hll]; exact hI⟩, by rw [hll]; unfold maxLen at hm; omega, ?_⟩
      intro q hq
      obtain ⟨i, hi, rfl⟩ := List.mem_map.1 hq
      obtain ⟨_, h1, h2, h3, h4, _⟩ := hr i (by have := List.mem_range.1 hi; omega)
      exact ⟨by unfold maxLen at h2; simp; omega, fun y hy => bounds_i64 (h4 y (List.mem_of_mem_take hy))⟩
    refine ⟨hll, fun k hk => ?_⟩
    obtain ⟨b, off, spot⟩ := x
    have hspot : spot = none := by simpa [Addr.add] using World.cell?_spot (hr 0 (by omega)).1
    subst hspot
    obtain ⟨hc, h1, h2, h3, h4, h5, h6⟩ := hr k (by omega)
    rw [Addr.add_lit] at hc
    have hlen : ((Z k).take (L k)).length = L k := by simp; omega
    refine ⟨b, off, A k, C k, (Z k).take (L k), rfl, World.block_lt_of_cell? W _ hc, hget k hk, by rw [hlen]; exact hc, ?_⟩
    rw [hlen]
    refine ⟨hlen, fun j hj => ?_⟩
    cases hA : A k with
    | none => have := h5 hA; omega
    | some a' =>
      obtain ⟨_, h7⟩ := h6 a' hA
      obtain ⟨b', off', spot'⟩ := a'
      have hspot' : spot' = none := by simpa [Addr.add] using World.cell?_spot (h7 0 (by omega))
      subst hspot'
      have h8 := h7 j (by omega)
      rw [Addr.add_lit] at h8
      refine ⟨b', off', (Z k)[j]'(by omega), rfl, World.block_lt_of_cell? W _ h8, ?_, ?_⟩
      · rw [List.getElem?_take, if_pos hj]
        exact List.getElem?_eq_getElem _
      · rw [h8]
        simp [List.getD, show j < (Z k).length by omega]
end Go.Proofs.Ytmfeabfbhaiaeaa
