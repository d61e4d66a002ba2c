/- Reading an argument of type []byte. -/
import Derived.Test.YtfdhbbhfilkafaaRdInts
namespace Go.Proofs.Ytfdhbbhfilkafaa
open Go.ChangeShapes Go.WideShapes Go.ChangeAt Go.RowKit
set_option maxRecDepth 100000
def BytesAt (W : World) (a : Option Addr) (n : Nat) (l : List Int) : Prop :=
  l.length = n ∧ ∀ k, k < n → ∃ b off x, a = some ⟨b, off, none⟩ ∧ b < W.heap.size ∧ l[k]? = some x ∧ W.cell? ⟨b, off + k, none⟩ = some (.int .u8 x) ∧ 0 ≤ x ∧ x ≤ 255
theorem BytesAt.below {W W' : World} {a : Option Addr} {n : Nat} {l : List Int} (h : BytesAt W a n l) (hk : Below W.heap.size W W') : BytesAt W' a n l :=
  ⟨h.1, fun k hkn => by
    obtain ⟨b, off, x, h1, h2, h3, h4, h5⟩ := h.2 k hkn
    exact ⟨b, off, x, h1, Nat.lt_of_lt_of_le h2 hk.size, h3, (hk.cell (p := ⟨b, off + k, none⟩) h2).trans h4, h5⟩⟩
def IsBytes (W : World) (v : Value) (l : List Int) : Prop := ∃ a cap, v = .slice a l.length cap ∧ BytesAt W a l.length l
def OkBytes (l : List Int) : Prop := l.length ≤ 9223372036854775807
theorem rd_bytes {H : Type} {enc : TypeId × Value → H} {W : World} {b0 base : Nat} {spare : Nat → Bool} {held : Bool} {r : Reach} {v : Value} {d : DataW H} {p : List MemPlace}
    (hv : Value.okWide Try.prog W r b0 22 v) (h : DataW.Trod enc Try.prog W base spare held 22 v d p) : ∃ x, IsBytes W v x ∧ OkBytes x := by
  obtain ⟨a0, len0, cap0, rfl⟩ := okWide_slice Try.underlying22 hv
  obtain ⟨fuel, hf⟩ := h
  rcases open_ints Try.underlying22 Try.underlying5 (by kernel_rfl) hf with ⟨hcs, _⟩ | ⟨x, l, c, zs, hcs, _, hl, hm, hz, _, hcell, hwz⟩
  · simp [Value.cells] at hcs
    obtain ⟨rfl, rfl, rfl⟩ := hcs
    exact ⟨[], ⟨none, 0, rfl, rfl, fun k hk => absurd hk (Nat.not_lt_zero _)⟩, by simp [OkBytes]⟩
  · simp [Value.cells] at hcs
    obtain ⟨rfl, rfl, rfl⟩ := hcs
    have hzl : len0 ≤ zs.length := by rw [hz]; split <;> omega
    have hll : (zs.take len0).length = len0 := by simp; omega
    suffices hI : BytesAt W (some x) len0 (zs.take len0) from ⟨zs.take len0, ⟨some x, cap0, by rw [hll], by rw [hll]; exact hI⟩, by unfold OkBytes; unfold maxLen at hm; omega⟩
    refine ⟨hll, fun k hk => ?_⟩
    have hc := hcell k (by omega)
    obtain ⟨b, off, spot⟩ := x
    have hspot : spot = none := by simpa [Addr.add] using World.cell?_spot (hcell 0 (by omega))
    subst hspot
    rw [addr_add] at hc
    have hb8 := bounds_u8 (hwz (zs[k]'(by omega)) (List.getElem_mem _))
    refine ⟨b, off, zs[k]'(by omega), rfl, World.block_lt_of_cell? W _ hc, ?_, ?_, hb8⟩
    · rw [List.getElem?_take, if_pos hk]
      exact List.getElem?_eq_getElem _
    · rw [hc]
      simp [List.getD, show k < zs.length by omega]
end Go.Proofs.Ytfdhbbhfilkafaa
