/- IsMatrix of the program and of the reference. -/
import Derived.Test.YtmfeabfbhaiaeaaIntss
namespace Go.Proofs.Ytmfeabfbhaiaeaa
open Go.RowKit
set_option maxRecDepth 100000
set_option linter.unusedVariables false
set_option linter.unusedSimpArgs false

def sq : List Int → Int
  | [] => 0
  | x :: r => x * x + sq r
theorem sq_snoc (l : List Int) (x : Int) : sq (l ++ [x]) = sq l + x * x := by
  induction l with
  | nil => simp [sq]
  | cons y l ih => simp only [List.cons_append, sq, ih]; omega
def smallRow (r : List Int) : Bool := r.all fun x => inB x (-8) 8
def rowOk (c : Nat) (r : List Int) : Bool := r.length == c && (inB r.length 1 12 && (smallRow r && decide (sq r ≤ 64)))
def width (ll : List (List Int)) : Nat := (ll.headD []).length
def isMat (ll : List (List Int)) : Bool := inB ll.length 1 9 && ll.all (rowOk (width ll))

theorem sq8 {x : Int} (h : inB x (-8) 8 = true) : 0 ≤ x * x ∧ x * x ≤ 64 ∧ -8 ≤ x ∧ x ≤ 8 := by
  simp [inB] at h
  have h1 : 0 ≤ x * x := by rcases Int.le_total 0 x with h0 | h0; exact Int.mul_nonneg h0 h0; exact Int.mul_nonneg_of_nonpos_of_nonpos h0 h0
  have h2 : 0 ≤ (8 - x) * (8 + x) := Int.mul_nonneg (by omega) (by omega)
  have h3 : (8 - x) * (8 + x) = 64 - x * x := by rw [Int.sub_mul, Int.mul_add, Int.mul_add]; have := Int.mul_comm x 8; omega
  omega
theorem sq_bd {l : List Int} (h : smallRow l = true) : 0 ≤ sq l ∧ sq l ≤ 64 * l.length := by
  induction l with
  | nil => simp [sq]
  | cons x l ih =>
    simp only [smallRow, List.all_cons, Bool.and_eq_true] at h
    have h1 := ih h.2
    have h2 := sq8 h.1
    simp only [sq, List.length_cons]
    omega
theorem isMat_row {ll : List (List Int)} {k : Nat} {r : List Int} (h : ll[k]? = some r) (hr : rowOk (width ll) r = false) : isMat ll = false := by
  have : ll.all (rowOk (width ll)) = false := List.all_eq_false.2 ⟨r, List.mem_of_getElem? h, by simp [hr]⟩
  simp [isMat, this]
theorem small_not {r : List Int} {j : Nat} {x : Int} (h : r[j]? = some x) (hx : inB x (-8) 8 = false) : smallRow r = false := List.all_eq_false.2 ⟨x, List.mem_of_getElem? h, by simp [hx]⟩

end Go.Proofs.Ytmfeabfbhaiaeaa
