/- PrimitiveVector of the program and of the reference. -/
import Derived.Test.YtjlhmaplfbdpmaaApp
import Derived.Test.YtjlhmaplfbdpmaaGcd
import Derived.Test.YtjlhmaplfbdpmaaInts
namespace Go.Proofs.Ytjlhmaplfbdpmaa
open Go.RowKit
set_option maxRecDepth 100000
set_option linter.unusedVariables false
set_option linter.unusedSimpArgs false

theorem gcdZ_bd (a b : Int) : 0 ≤ gcdZ a b ∧ gcdZ a b ≤ 9000000000000000000 := by
  unfold gcdZ
  split
  · rename_i h
    simp only [Bool.and_eq_true] at h
    have h1 := smallB_bd h.1
    have h2 := smallB_bd h.2
    refine ⟨by omega, ?_⟩
    rcases Nat.eq_zero_or_pos a.natAbs with h0 | h0
    · rw [h0, Nat.gcd_zero_left]; omega
    · have := Nat.gcd_le_left b.natAbs h0; omega
  · omega
def gcdTo (l : List Int) : Nat → Int
  | 0 => 0
  | k + 1 => gcdZ (gcdTo l k) (l[k]?.getD 0)
theorem gcdTo_bd (l : List Int) (k : Nat) : 0 ≤ gcdTo l k ∧ gcdTo l k ≤ 9000000000000000000 := by
  cases k with
  | zero => simp [gcdTo]
  | succ k => exact gcdZ_bd _ _
def firstTo (l : List Int) : Nat → Int
  | 0 => 0
  | k + 1 => if firstTo l k = 0 then l[k]?.getD 0 else firstTo l k
def primDen (l : List Int) : Int := if firstTo l l.length < 0 then -(gcdTo l l.length) else gcdTo l l.length
def quot (d x : Int) : Int := wrap64 (x.tdiv d)
def prim (l : List Int) : List Int := if l.all smallB = true then (if gcdTo l l.length = 0 then l else l.map (quot (primDen l))) else l
theorem prim_length (l : List Int) : (prim l).length = l.length := by unfold prim; split; split <;> simp; rfl

theorem prim_big {l : List Int} {k : Nat} {x : Int} (h : l[k]? = some x) (hx : smallB x = false) : prim l = l := by
  have : l.all smallB = false := List.all_eq_false.2 ⟨x, List.mem_of_getElem? h, by simp [hx]⟩
  simp [prim, this]

end Go.Proofs.Ytjlhmaplfbdpmaa
