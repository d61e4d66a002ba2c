/- Reading an argument of type Graph or Framework. -/
import Derived.Test.YtfdhbbhfilkafaaFw
import Derived.Test.YtfdhbbhfilkafaaRdBars
import Derived.Test.YtfdhbbhfilkafaaRdPlaces
namespace Go.Proofs.Ytfdhbbhfilkafaa
open Go.ChangeShapes Go.WideShapes Go.ChangeAt Go.RowKit Go.Deep
set_option maxRecDepth 100000
set_option linter.unusedVariables false
set_option linter.unusedSimpArgs false

section
variable {H : Type} {enc : TypeId × Value → H} {W : World} {base : Nat} {spare : Nat → Bool} {held : Bool}

theorem cellsInt : Try.prog.cellsOf 3 = 1 := by kernel_rfl
theorem cellsBarS : Try.prog.cellsOf 49 = 1 := by kernel_rfl
theorem cellsGraphT : Try.prog.cellsOf 51 = 2 := by kernel_rfl

/-- a graph, from its two cells -/
theorem graph_cells {cs : List Value} {fuel : Nat} {x : DataW H × List MemPlace} (hl : cs.length = 2) (h : DataW.trod enc Try.prog W base spare held fuel 51 cs = some x) :
    ∃ (p : Int) (a : Option Addr) (cap : Nat) (l : List BarT), cs = [.int .i64 p, .slice a l.length cap] ∧ BarsAt W a l.length l ∧ OkGraph (p, l) := by
  obtain ⟨c0, c1, rfl⟩ : ∃ c0 c1, cs = [c0, c1] := by
    match cs, hl with
    | [c0, c1], _ => exact ⟨c0, c1, rfl⟩
  obtain ⟨ys, n, _, _, _, hyl, hg⟩ := DataW.trod_struct Try.underlying51 h
  have h0 := hg 0 _ rfl
  have h1 := hg 1 _ rfl
  change DataW.trod enc Try.prog W base spare held n 3 (([c0, c1].drop 0).take (Try.prog.cellsOf 3)) = _ at h0
  change DataW.trod enc Try.prog W base spare held n 49 (([c0, c1].drop 1).take (Try.prog.cellsOf 49)) = _ at h1
  simp only [cellsInt, cellsBarS, List.drop_zero, List.drop_succ_cons, List.take_succ_cons, List.take_zero] at h0 h1
  rw [List.getElem?_eq_getElem (by rw [hyl]; decide)] at h0 h1
  obtain ⟨p, hp, _, hw⟩ := DataW.trod_int Try.underlying3 h0
  obtain ⟨a, len, cap, hcs, hlen, hk⟩ := int_structs_cell (f := 2) Try.underlying108 (by kernel_rfl) (by kernel_rfl) (by kernel_rfl) rfl (by omega) Try.underlying49 h1
  obtain ⟨l, hat, hb⟩ := BarsAt_of hk
  obtain rfl := hat.1
  simp at hp hcs
  subst hp hcs
  exact ⟨p, a, cap, l, rfl, hat, bounds_i64 hw, hlen, hb⟩

theorem rd_graph {r : Reach} {b0 : Nat} {v : Value} {d : DataW H} {p : List MemPlace}
    (hv : Value.okWide Try.prog W r b0 51 v) (h : DataW.Trod enc Try.prog W base spare held 51 v d p) : ∃ x, IsGraph W v x ∧ OkGraph x := by
  obtain ⟨cs, rfl, hsz⟩ := okWide_struct Try.underlying51 hv
  obtain ⟨fuel, hf⟩ := h
  have hl : cs.toList.length = 2 := by rw [Array.length_toList, hsz]; exact cellsGraphT
  obtain ⟨q, a, cap, l, hcs, hat, hok⟩ := graph_cells hl (by simpa [Value.cells] using hf)
  refine ⟨(q, l), ⟨a, cap, ?_, hat⟩, hok⟩
  congr 1
  apply Array.toList_inj.1
  rw [hcs]

end
end Go.Proofs.Ytfdhbbhfilkafaa
