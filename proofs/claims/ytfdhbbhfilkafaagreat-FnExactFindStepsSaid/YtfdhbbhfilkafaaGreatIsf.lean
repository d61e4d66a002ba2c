/- IsFramework of the program and of the reference. -/
import Derived.Test.YtfdhbbhfilkafaaGreatIsg2
import Derived.Test.YtfdhbbhfilkafaaGreatPl
namespace Go.Proofs.YtfdhbbhfilkafaaGreat
open Go.RowKit
set_option maxRecDepth 100000
set_option linter.unusedVariables false
set_option linter.unusedSimpArgs false

def fwBarAt (l : List BarT) (q : List PlaceT) (i : Nat) : Bool := match l[i]? with
  | none => true
  | some x => !(decide (0 < i) && decide (l[i - 1]? = some x)) && !decide (q[x.1.toNat]? = q[x.2.toNat]?)
def isFwB (f : FwT) : Bool := isGraphB (f.1, f.2.1) && (decide (f.1 ≤ 6) && (decide ((f.2.2.length : Int) = f.1) && (decide (f.2.1.length ≤ 15) && (f.2.2.all (fun x => onB x.1 x.2) && (List.range f.2.1.length).all (fwBarAt f.2.1 f.2.2)))))
theorem isGraphB_bd {p : Int} {l : List BarT} (h : isGraphB (p, l) = true) : (1 ≤ p ∧ p ≤ 8) ∧ l.length ≤ 24 := by
  simp [isGraphB, inB] at h; omega
theorem isGraphB_bar {p : Int} {l : List BarT} (h : isGraphB (p, l) = true) {i : Nat} {x : BarT} (hx : l[i]? = some x) : 0 ≤ x.1 ∧ x.1 < x.2 ∧ x.2 < p := by
  simp only [isGraphB, barsOk, Bool.and_eq_true, List.all_eq_true] at h
  have h1 := h.2.2 i (List.mem_range.2 (lt_of_getElem? hx))
  simp only [barAt, hx, Bool.and_eq_true, decide_eq_true_eq] at h1
  exact ⟨h1.1, h1.2.1, h1.2.2.1⟩
theorem isFw_place {p : Int} {l : List BarT} {q : List PlaceT} {k : Nat} {x1 x2 : Int} (h : q[k]? = some (x1, x2)) (hx : onB x1 x2 = false) : isFwB (p, l, q) = false := by
  have : q.all (fun x => onB x.1 x.2) = false := List.all_eq_false.2 ⟨_, List.mem_of_getElem? h, by simp [hx]⟩
  simp only [isFwB, this, Bool.false_and, Bool.and_false]
theorem isFw_bar {p : Int} {l : List BarT} {q : List PlaceT} {j : Nat} (hj : j < l.length) (h : fwBarAt l q j = false) : isFwB (p, l, q) = false := by
  have : (List.range l.length).all (fwBarAt l q) = false := List.all_eq_false.2 ⟨j, List.mem_range.2 hj, by simp [h]⟩
  simp only [isFwB, this, Bool.false_and, Bool.and_false]

theorem specIsGraph_n (W : World) (p : Int) (a : Option Addr) (cap n : Nat) (l : List BarT) (h : BarsAt W a n l) (hn : n ≤ 1099511627776) :
    Calls Tryz.prog 59 #[.agg #[.int .i64 p, .slice a n cap]] W fun e w' => e = .returned (.bool (isGraphB (p, l))) ∧ Below W.heap.size W w' := by
  obtain rfl := h.1
  exact specIsGraph_at W p a cap l h hn

end Go.Proofs.YtfdhbbhfilkafaaGreat
