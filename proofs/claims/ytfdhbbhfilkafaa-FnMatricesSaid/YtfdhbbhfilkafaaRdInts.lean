/- Reading an argument of type []int. -/
import Derived.Test.YtfdhbbhfilkafaaInts
import Derived.ProofKit
import Derived.OpenShut
namespace Go.Proofs.Ytfdhbbhfilkafaa
open Go.ChangeShapes Go.WideShapes Go.ChangeAt Go.RowKit
set_option maxRecDepth 100000


theorem addr_add (b off k : Nat) : (⟨b, off, none⟩ : Addr).add k = ⟨b, off + k, none⟩ := Addr.add_lit _ _ _

theorem rd_ints {H : Type} {enc : TypeId × Value → H} {W : World} {b0 base : Nat} {spare : Nat → Bool} {held : Bool} {r : Reach} {v : Value} {d : DataW H} {p : List MemPlace}
    (hv : Value.okWide Try.prog W r b0 35 v) (h : DataW.Trod enc Try.prog W base spare held 35 v d p) : ∃ x, IsInts W v x ∧ OkInts x := by
  obtain ⟨a0, len0, cap0, rfl⟩ := okWide_slice Try.underlying35 hv
  obtain ⟨fuel, hf⟩ := h
  rcases open_ints Try.underlying35 Try.underlying3 (by kernel_rfl) hf with ⟨hcs, _⟩ | ⟨x, l, c, zs, hcs, _, hl, hm, hz, _, hcell, hwz⟩
  · simp [Value.cells] at hcs
    obtain ⟨rfl, rfl, rfl⟩ := hcs
    exact ⟨[], ⟨none, 0, rfl, IntsAt.nil _ _⟩, by simp, by simp⟩
  · simp [Value.cells] at hcs
    obtain ⟨rfl, rfl, rfl⟩ := hcs
    have hzl : len0 ≤ zs.length := by rw [hz]; split <;> omega
    have hll : (zs.take len0).length = len0 := by simp; omega
    suffices hI : IntsAt W (some x) len0 (zs.take len0) from ⟨zs.take len0, ⟨some x, cap0, by rw [hll], by rw [hll]; exact hI⟩, by unfold maxLen at hm; omega, fun y hy => bounds_i64 (hwz y (List.mem_of_mem_take hy))⟩
    refine ⟨hll, fun k hk => ?_⟩
    have hc := hcell k (by omega)
    obtain ⟨b, off, spot⟩ := x
    have hspot : spot = none := by simpa [Addr.add] using World.cell?_spot (hcell 0 (by omega))
    subst hspot
    rw [addr_add] at hc
    refine ⟨b, off, zs[k]'(by omega), rfl, World.block_lt_of_cell? W _ hc, ?_, ?_⟩
    · rw [List.getElem?_take, if_pos hk]
      exact List.getElem?_eq_getElem _
    · rw [hc]
      simp [List.getD, show k < zs.length by omega]
end Go.Proofs.Ytfdhbbhfilkafaa
