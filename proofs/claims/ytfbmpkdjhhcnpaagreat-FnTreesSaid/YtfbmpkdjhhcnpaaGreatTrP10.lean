/- IsFramework of the program and of the reference. -/
import Derived.Test.YtfbmpkdjhhcnpaaGreatTrP06
import Derived.Test.YtfbmpkdjhhcnpaaGreatTrP09
import Derived.Test.YtfbmpkdjhhcnpaaGreatTrP08
import Derived.Test.YtfbmpkdjhhcnpaaGreatTrP07
import Derived.Deep.RegionHeld3
import Derived.OwnWalk
import Derived.BigRegion
import Derived.Test.YtfbmpkdjhhcnpaaGreatTrP04
namespace Go.Proofs.YtfbmpkdjhhcnpaaGreat
open Go.RowKit
set_option maxRecDepth 100000
set_option linter.unusedVariables false
set_option linter.unusedSimpArgs false

theorem isGraphB_bd {p : Int} {l : List BarT} (h : isGraphB (p, l) = true) : (1 ≤ p ∧ p ≤ 8) ∧ l.length ≤ 24 := by
  simp [isGraphB, inB] at h; omega
theorem isGraphB_bar {p : Int} {l : List BarT} (h : isGraphB (p, l) = true) {i : Nat} {x : BarT} (hx : l[i]? = some x) : 0 ≤ x.1 ∧ x.1 < x.2 ∧ x.2 < p := by
  simp only [isGraphB, barsOk, Bool.and_eq_true, List.all_eq_true] at h
  have h1 := h.2.2 i (List.mem_range.2 (lt_of_getElem? hx))
  simp only [barAt, hx, Bool.and_eq_true, decide_eq_true_eq] at h1
  exact ⟨h1.1, h1.2.1, h1.2.2.1⟩
end Go.Proofs.YtfbmpkdjhhcnpaaGreat

namespace Go.Proofs.YtfbmpkdjhhcnpaaGreat
open Go.RowKit
set_option maxRecDepth 100000
set_option linter.unusedVariables false
set_option linter.unusedSimpArgs false

theorem OwnBars.cap {W : World} {base : Nat} {a : Option Addr} {n c : Nat} {l : List BarT} (h : OwnBars W base (.slice a n c) l) : n ≤ c ∧ c ≤ 9223372036854775807 := by
  rcases h.2 with ⟨h1, h0⟩ | ⟨g', cap, cur, h1, hb, hg, h2⟩
  · simp at h1
    omega
  · simp at h1
    have : maxLen = 9223372036854775807 := rfl
    omega
end Go.Proofs.YtfbmpkdjhhcnpaaGreat


namespace Go.Proofs.YtfbmpkdjhhcnpaaGreat
open Go.RowKit
set_option maxRecDepth 100000
set_option linter.unusedVariables false
set_option linter.unusedSimpArgs false
theorem barLe_iff (x y : BarT) : barLe x y = true ↔ (x.1 < y.1 ∨ (x.1 = y.1 ∧ x.2 ≤ y.2)) := by
  simp [barLe]
def Ord (l : List BarT) : Prop := l.Pairwise fun x y => barLe x y = true
theorem putL_ord {l : List BarT} (x : BarT) (h : Ord l) : Ord (putL l x) := by
  induction l with
  | nil => exact List.pairwise_singleton _ _
  | cons y t ih =>
    have h' := List.pairwise_cons.1 h
    unfold putL
    split
    · rename_i e
      refine List.pairwise_cons.2 ⟨fun z hz => ?_, ih h'.2⟩
      rcases mem_putL.1 hz with rfl | hz
      · exact e
      · exact h'.1 z hz
    · rename_i e
      have e' : barLe x y = true := by
        have : ¬ barLe y x = true := e
        rw [barLe_iff] at this ⊢
        omega
      refine List.pairwise_cons.2 ⟨fun z hz => ?_, h⟩
      rcases List.mem_cons.1 hz with rfl | hz
      · exact e'
      · have e2 := h'.1 z hz
        rw [barLe_iff] at *
        omega
theorem isGraphB_ord {p : Int} {l : List BarT} (h : isGraphB (p, l) = true) : Ord l := by
  have key : ∀ i x y, l[i]? = some x → l[i + 1]? = some y → barLe x y = true := by
    intro i x y hx hy
    simp only [isGraphB, Bool.and_eq_true] at h
    have h1 := List.all_eq_true.1 h.2.2 (i + 1) (List.mem_range.2 (lt_of_getElem? hy))
    simp only [barAt, hy, Nat.add_sub_cancel, hx, Bool.and_eq_true, Bool.or_eq_true, beq_iff_eq] at h1
    rcases h1.2.2.2 with h2 | h2
    · omega
    · exact h2
  have all : ∀ (d i : Nat) x y, l[i]? = some x → l[i + d]? = some y → barLe x y = true := by
    intro d
    induction d with
    | zero => intro i x y hx hy; rw [Nat.add_zero, hx] at hy; rw [Option.some.inj hy, barLe_iff]; omega
    | succ d ih =>
      intro i x y hx hy
      have hl := lt_of_getElem? hy
      have e1 := ih i x _ hx (List.getElem?_eq_getElem (show i + d < l.length by omega))
      have e2 := key (i + d) _ y (List.getElem?_eq_getElem (show i + d < l.length by omega)) hy
      rw [barLe_iff] at *
      omega
  refine List.pairwise_iff_getElem.2 fun i j hi hj hij => ?_
  exact all (j - i) i _ _ (List.getElem?_eq_getElem hi) (by rw [show i + (j - i) = j by omega]; exact List.getElem?_eq_getElem hj)
theorem isGraphB_of {p : Int} {l : List BarT} (hp : inB p 1 8 = true) (hl : l.length ≤ 24) (hb : ∀ x ∈ l, 0 ≤ x.1 ∧ x.1 < x.2 ∧ x.2 < p) (ho : Ord l) : isGraphB (p, l) = true := by
  unfold isGraphB barsOk
  simp only [Bool.and_eq_true, decide_eq_true_eq, List.all_eq_true, List.mem_range]
  refine ⟨hp, hl, fun i hi => ?_⟩
  have hx := hb _ (List.getElem_mem hi)
  unfold barAt
  rw [List.getElem?_eq_getElem hi]
  dsimp only
  simp only [Bool.and_eq_true, decide_eq_true_eq, Bool.or_eq_true, beq_iff_eq]
  refine ⟨hx.1, hx.2.1, hx.2.2, ?_⟩
  by_cases h0 : i = 0
  · exact .inl h0
  · right
    rw [List.getElem?_eq_getElem (show i - 1 < l.length by omega)]
    exact List.pairwise_iff_getElem.1 ho (i - 1) i (by omega) hi (by omega)
theorem isGraphB_sub {p : Int} {l m : List BarT} (h : isGraphB (p, l) = true) (hs : m.Sublist l) : isGraphB (p, m) = true := by
  have h2 := isGraphB_bd h
  refine isGraphB_of (by simp [inB]; omega) (Nat.le_trans hs.length_le h2.2) (fun x hx => ?_) (List.Pairwise.sublist hs (isGraphB_ord h))
  obtain ⟨k, hk⟩ := List.getElem?_of_mem (hs.subset hx)
  exact isGraphB_bar h hk
theorem graph_put {p : Int} {l : List BarT} {x : BarT} (h : isGraphB (p, l) = true) (hl : l.length ≤ 23) (hx : 0 ≤ x.1 ∧ x.1 < x.2 ∧ x.2 < p) : isGraphB (p, putL l x) = true := by
  have h2 := isGraphB_bd h
  refine isGraphB_of (by simp [inB]; omega) (by rw [putL_length]; omega) (fun y hy => ?_) (putL_ord x (isGraphB_ord h))
  rcases mem_putL.1 hy with rfl | hy
  · exact hx
  · obtain ⟨k, hk⟩ := List.getElem?_of_mem hy
    exact isGraphB_bar h hk
/-- a graph whose bars lie below v -/
structure LmG (P : Int) (v m : Nat) (bs : List BarT) : Prop where
  g : isGraphB (P, bs) = true
  lo : 1 ≤ bs.length
  hi : bs.length ≤ m
  lt : ∀ x ∈ bs, x.2 < v
theorem LmG.put {P : Int} {v v' m : Nat} {bs : List BarT} (h : LmG P v m bs) (hm : m ≤ 22) (hv : v ≤ v') {x : BarT} (hx : 0 ≤ x.1 ∧ x.1 < x.2 ∧ x.2 < P) (hxv : x.2 < v') : LmG P v' (m + 1) (putL bs x) :=
  ⟨graph_put h.g (by have := h.hi; omega) hx, by rw [putL_length]; omega, by rw [putL_length]; have := h.hi; omega, fun y hy => by
    rcases mem_putL.1 hy with rfl | hy
    · exact hxv
    · have := h.lt y hy; omega⟩
end Go.Proofs.YtfbmpkdjhhcnpaaGreat

namespace Go.Proofs.YtfbmpkdjhhcnpaaGreat
open Go.RowKit
set_option maxRecDepth 100000
set_option linter.unusedVariables false
set_option linter.unusedSimpArgs false
end Go.Proofs.YtfbmpkdjhhcnpaaGreat

