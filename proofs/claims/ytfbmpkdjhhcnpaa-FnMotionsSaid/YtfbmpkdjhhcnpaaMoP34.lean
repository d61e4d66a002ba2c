/- Reading slices of structs whose fields are ints, whatever their number. -/
import Derived.Test.YtfbmpkdjhhcnpaaMoP01
import Derived.ProofKit
import Derived.OpenShut
import Derived.Deep.Slices
import Derived.Deep.Fields
import Derived.ChangeSame
import Derived.Test.YtfbmpkdjhhcnpaaMoP06
import Derived.Test.YtfbmpkdjhhcnpaaMoP07
import Derived.Test.YtfbmpkdjhhcnpaaMoP08
namespace Go.Proofs.Ytfbmpkdjhhcnpaa
open Go.ChangeShapes Go.WideShapes Go.ChangeAt Go.RowKit Go.Deep
set_option maxRecDepth 100000
set_option linter.unusedVariables false
set_option linter.unusedSimpArgs false

section
variable {H : Type} {enc : TypeId × Value → H} {W : World} {base : Nat} {spare : Nat → Bool} {held : Bool}

/-- a struct of int fields reads: each of its cells is an int -/
theorem int_fields {fs : Array Field} {e : TypeId} {fuel : Nat} {cs : List Value} {x : DataW H × List MemPlace} (he : Try.prog.underlying e = some (.struct fs)) (hone : oneCellFields Try.prog fs = true)
    (hint : fs.toList.all (fun f => f.type == 3) = true) (hlen : cs.length = fs.size) (h : DataW.trod enc Try.prog W base spare held fuel e cs = some x) : ∀ j, j < fs.size → ∃ n : Int, cs[j]? = some (.int .i64 n) ∧ -9223372036854775808 ≤ n ∧ n ≤ 9223372036854775807 := by
  obtain ⟨ys, n, _, _, _, hyl, hg⟩ := DataW.trod_struct he h
  intro j hj
  have hf : fs[j]? = some fs[j] := Array.getElem?_eq_getElem hj
  obtain ⟨ho, hk⟩ := hone_of hone j _ hf
  have h1 := hg j _ hf
  rw [ho, hk, List.drop_eq_getElem_cons (by omega)] at h1
  have ht : fs[j].type = 3 := by
    have := List.all_eq_true.1 hint fs[j] (by simp)
    simpa using this
  rw [ht, List.getElem?_eq_getElem (by omega)] at h1
  obtain ⟨m, hm, _, hw⟩ := DataW.trod_int Try.underlying3 h1
  simp only [List.take_succ_cons, List.take_zero, List.cons.injEq, and_true] at hm
  exact ⟨m, by rw [List.getElem?_eq_getElem (by omega), hm], bounds_i64 hw⟩

/-- a slice of such structs, from its cell -/
theorem int_structs_cell {fs : Array Field} {t e : TypeId} {f : Nat} (he : Try.prog.underlying e = some (.struct fs)) (hone : oneCellFields Try.prog fs = true) (hint : fs.toList.all (fun f => f.type == 3) = true) (hC : Try.prog.cellsOf e = f) (hfs : fs.size = f) (hf0 : 0 < f)
    (ht : Try.prog.underlying t = some (.slice e)) {cs : List Value} {fuel : Nat} {x : DataW H × List MemPlace} (hf : DataW.trod enc Try.prog W base spare held fuel t cs = some x) :
    ∃ a len cap, cs = [.slice a len cap] ∧ len ≤ 9223372036854775807 ∧ ∀ k, k < len → ∃ b off, a = some ⟨b, off, none⟩ ∧ b < W.heap.size ∧ ∀ j, j < f → ∃ n : Int, W.cell? ⟨b, off + (k * f + j), none⟩ = some (.int .i64 n) ∧ -9223372036854775808 ≤ n ∧ n ≤ 9223372036854775807 := by
  rcases open_slice ht hf with ⟨hcs, _⟩ | ⟨x, len0, cap0, m, n, D, Pl, hcs, _, hl, hm, hmm, _, hi⟩
  · exact ⟨none, 0, 0, hcs, by omega, fun k hk => by omega⟩
  · refine ⟨some x, len0, cap0, hcs, by unfold maxLen at hm; omega, fun k hk => ?_⟩
    have hml : len0 ≤ m := by rw [hmm]; split <;> omega
    obtain ⟨b, off, spot⟩ := x
    have hspot : spot = none := by
      obtain ⟨cs0, hc0, ht0⟩ := hi 0 (by omega)
      obtain ⟨_, hl0, hat0⟩ := World.cells?_some hc0
      have h0 := hat0 0 (by omega)
      rw [List.getElem?_eq_getElem (by omega)] at h0
      simpa [Addr.add] using World.cell?_spot h0
    subst hspot
    obtain ⟨cs', hc, ht'⟩ := hi k (by omega)
    obtain ⟨_, hlc, hat⟩ := World.cells?_some hc
    have hF := int_fields he hone hint (by omega) ht'
    rw [hC] at hat hlc
    rw [hfs] at hF
    have hadd : ∀ j, j < f → W.cell? ⟨b, off + (k * f + j), none⟩ = cs'[j]? := fun j hj => by
      rw [← hat j hj, Addr.add_lit, Addr.add_lit, Nat.add_assoc]
    refine ⟨b, off, rfl, ?_, fun j hj => ?_⟩
    · obtain ⟨n0, hn0, _⟩ := hF 0 hf0
      exact World.block_lt_of_cell? W ⟨b, off + (k * f + 0), none⟩ (by rw [hadd 0 hf0]; exact hn0)
    · obtain ⟨n1, hn1, hw⟩ := hF j hj
      exact ⟨n1, by rw [hadd j hj]; exact hn1, hw⟩
/-- a slice of such structs: the cells of each element -/
theorem int_structs {fs : Array Field} {t e : TypeId} {f : Nat} (he : Try.prog.underlying e = some (.struct fs)) (hone : oneCellFields Try.prog fs = true) (hint : fs.toList.all (fun f => f.type == 3) = true) (hC : Try.prog.cellsOf e = f) (hfs : fs.size = f) (hf0 : 0 < f)
    (ht : Try.prog.underlying t = some (.slice e)) {r : Reach} {b0 : Nat} {v : Value} {d : DataW H} {p : List MemPlace} (hv : Value.okWide Try.prog W r b0 t v) (h : DataW.Trod enc Try.prog W base spare held t v d p) :
    ∃ a len cap, v = .slice a len cap ∧ len ≤ 9223372036854775807 ∧ ∀ k, k < len → ∃ b off, a = some ⟨b, off, none⟩ ∧ b < W.heap.size ∧ ∀ j, j < f → ∃ n : Int, W.cell? ⟨b, off + (k * f + j), none⟩ = some (.int .i64 n) ∧ -9223372036854775808 ≤ n ∧ n ≤ 9223372036854775807 := by
  obtain ⟨a0, len0, cap0, rfl⟩ := okWide_slice ht hv
  obtain ⟨fuel, hf⟩ := h
  obtain ⟨a, len, cap, hcs, h1, h2⟩ := int_structs_cell he hone hint hC hfs hf0 ht hf
  simp [Value.cells] at hcs
  obtain ⟨rfl, rfl, rfl⟩ := hcs
  exact ⟨a0, len0, cap0, rfl, h1, h2⟩
end
end Go.Proofs.Ytfbmpkdjhhcnpaa

namespace Go.Proofs.Ytfbmpkdjhhcnpaa
open Go.ChangeShapes Go.WideShapes Go.ChangeAt Go.RowKit Go.Deep
set_option maxRecDepth 100000
set_option linter.unusedVariables false
set_option linter.unusedSimpArgs false

theorem BarsAt_of {W : World} {a : Option Addr} {len : Nat} (h : ∀ k, k < len → ∃ b off, a = some ⟨b, off, none⟩ ∧ b < W.heap.size ∧ ∀ j, j < 2 → ∃ n : Int, W.cell? ⟨b, off + (k * 2 + j), none⟩ = some (.int .i64 n) ∧ -9223372036854775808 ≤ n ∧ n ≤ 9223372036854775807) :
    ∃ l : List BarT, BarsAt W a len l ∧ ∀ x ∈ l, (-9223372036854775808 ≤ x.1 ∧ x.1 ≤ 9223372036854775807) ∧ (-9223372036854775808 ≤ x.2 ∧ x.2 ≤ 9223372036854775807) := by
  have h' : ∀ k, k < len → ∃ x : BarT, (∃ b off, a = some ⟨b, off, none⟩ ∧ b < W.heap.size ∧ W.cell? ⟨b, off + (k * 2 + 0), none⟩ = some (.int .i64 x.1) ∧ W.cell? ⟨b, off + (k * 2 + 1), none⟩ = some (.int .i64 x.2)) ∧ (-9223372036854775808 ≤ x.1 ∧ x.1 ≤ 9223372036854775807) ∧ (-9223372036854775808 ≤ x.2 ∧ x.2 ≤ 9223372036854775807) := by
    intro k hk
    obtain ⟨b, off, ha, hb, hj⟩ := h k hk

    obtain ⟨n0, c0, w0⟩ := hj 0 (by omega)
    obtain ⟨n1, c1, w1⟩ := hj 1 (by omega)
    exact ⟨(n0, n1), ⟨b, off, ha, hb, c0, c1⟩, w0, w1⟩
  obtain ⟨D, hD⟩ := choose_lt h'
  refine ⟨(List.range len).map D, ⟨by simp, fun k hk => ?_⟩, ?_⟩
  · obtain ⟨⟨b, off, ha, hb, c0, c1⟩, _⟩ := hD k hk
    refine ⟨b, off, D k, ha, hb, by simp [hk], ?_, ?_⟩
    · simpa [Nat.add_assoc] using c0
    · simpa [Nat.add_assoc] using c1
  · intro x hx
    obtain ⟨k, hk, rfl⟩ := List.mem_map.1 hx
    exact (hD k (List.mem_range.1 hk)).2

end Go.Proofs.Ytfbmpkdjhhcnpaa

namespace Go.Proofs.Ytfbmpkdjhhcnpaa
open Go.ChangeShapes Go.WideShapes Go.ChangeAt Go.RowKit Go.Deep
set_option maxRecDepth 100000
set_option linter.unusedVariables false
set_option linter.unusedSimpArgs false

theorem PlacesAt_of {W : World} {a : Option Addr} {len : Nat} (h : ∀ k, k < len → ∃ b off, a = some ⟨b, off, none⟩ ∧ b < W.heap.size ∧ ∀ j, j < 2 → ∃ n : Int, W.cell? ⟨b, off + (k * 2 + j), none⟩ = some (.int .i64 n) ∧ -9223372036854775808 ≤ n ∧ n ≤ 9223372036854775807) :
    ∃ l : List PlaceT, PlacesAt W a len l ∧ ∀ x ∈ l, (-9223372036854775808 ≤ x.1 ∧ x.1 ≤ 9223372036854775807) ∧ (-9223372036854775808 ≤ x.2 ∧ x.2 ≤ 9223372036854775807) := by
  have h' : ∀ k, k < len → ∃ x : PlaceT, (∃ b off, a = some ⟨b, off, none⟩ ∧ b < W.heap.size ∧ W.cell? ⟨b, off + (k * 2 + 0), none⟩ = some (.int .i64 x.1) ∧ W.cell? ⟨b, off + (k * 2 + 1), none⟩ = some (.int .i64 x.2)) ∧ (-9223372036854775808 ≤ x.1 ∧ x.1 ≤ 9223372036854775807) ∧ (-9223372036854775808 ≤ x.2 ∧ x.2 ≤ 9223372036854775807) := by
    intro k hk
    obtain ⟨b, off, ha, hb, hj⟩ := h k hk

    obtain ⟨n0, c0, w0⟩ := hj 0 (by omega)
    obtain ⟨n1, c1, w1⟩ := hj 1 (by omega)
    exact ⟨(n0, n1), ⟨b, off, ha, hb, c0, c1⟩, w0, w1⟩
  obtain ⟨D, hD⟩ := choose_lt h'
  refine ⟨(List.range len).map D, ⟨by simp, fun k hk => ?_⟩, ?_⟩
  · obtain ⟨⟨b, off, ha, hb, c0, c1⟩, _⟩ := hD k hk
    refine ⟨b, off, D k, ha, hb, by simp [hk], ?_, ?_⟩
    · simpa [Nat.add_assoc] using c0
    · simpa [Nat.add_assoc] using c1
  · intro x hx
    obtain ⟨k, hk, rfl⟩ := List.mem_map.1 hx
    exact (hD k (List.mem_range.1 hk)).2

end Go.Proofs.Ytfbmpkdjhhcnpaa

namespace Go.Proofs.Ytfbmpkdjhhcnpaa
open Go.ChangeShapes Go.WideShapes Go.ChangeAt Go.RowKit Go.Deep
set_option maxRecDepth 100000
set_option linter.unusedVariables false
set_option linter.unusedSimpArgs false

section
variable {H : Type} {enc : TypeId × Value → H} {W : World} {base : Nat} {spare : Nat → Bool} {held : Bool}

theorem cellsInt : Try.prog.cellsOf 3 = 1 := by kernel_rfl
end
end Go.Proofs.Ytfbmpkdjhhcnpaa

