/- Undoing a step, in plain words. No program in sight. -/
import Derived.Test.YtfdhbbhfilkafaaGreatNea
import Derived.Test.YtfdhbbhfilkafaaGreatFst
import Derived.Test.YtfdhbbhfilkafaaGreatMrg
import Derived.Test.YtfdhbbhfilkafaaGreatOvi
import Derived.Test.YtfdhbbhfilkafaaGreatStp6
import Derived.Test.YtfdhbbhfilkafaaGreatSri
import Derived.Test.YtfdhbbhfilkafaaGreatSteps
namespace Go.Proofs.YtfdhbbhfilkafaaGreat
open Go.RowKit
set_option maxRecDepth 100000
set_option linter.unusedVariables false
set_option linter.unusedSimpArgs false
theorem isGraphB_of {p : Int} {l : List BarT} (hp : inB p 1 8 = true) (hl : l.length ≤ 24) (hb : ∀ x ∈ l, 0 ≤ x.1 ∧ x.1 < x.2 ∧ x.2 < p) (ho : Ord l) : isGraphB (p, l) = true := by
  unfold isGraphB barsOk
  simp only [Bool.and_eq_true, decide_eq_true_eq, List.all_eq_true, List.mem_range]
  refine ⟨hp, hl, fun i hi => ?_⟩
  have hx := hb _ (List.getElem_mem hi)
  unfold barAt
  rw [List.getElem?_eq_getElem hi]
  dsimp only
  simp only [Bool.and_eq_true, decide_eq_true_eq, Bool.or_eq_true, beq_iff_eq]
  refine ⟨hx.1, hx.2.1, hx.2.2, ?_⟩
  by_cases h0 : i = 0
  · exact .inl h0
  · right
    rw [List.getElem?_eq_getElem (show i - 1 < l.length by omega)]
    exact List.pairwise_iff_getElem.1 ho (i - 1) i (by omega) hi (by omega)
theorem isGraphB_sub {p : Int} {l m : List BarT} (h : isGraphB (p, l) = true) (hs : m.Sublist l) : isGraphB (p, m) = true := by
  have h2 := isGraphB_bd h
  refine isGraphB_of (by simp [inB]; omega) (Nat.le_trans hs.length_le h2.2) (fun x hx => ?_) (List.Pairwise.sublist hs (isGraphB_ord h))
  obtain ⟨k, hk⟩ := List.getElem?_of_mem (hs.subset hx)
  exact isGraphB_bar h hk
theorem dropL_graph {p : Int} {l : List BarT} (v : Int) (h : isGraphB (p, l) = true) : isGraphB (p, dropL l v) = true := isGraphB_sub h List.filter_sublist
theorem near_drop (l : List BarT) (v : Int) : (nearL l v).length + (dropL l v).length = l.length := by
  unfold nearL dropL
  rw [List.length_map]
  induction l with
  | nil => rfl
  | cons x t ih =>
    cases h : hasV v x <;> simp [h] <;> omega
/-- the far ends come in their order -/
theorem near_sorted {p : Int} {l : List BarT} (v : Int) (h : isGraphB (p, l) = true) : (nearL l v).Pairwise (· ≤ ·) := by
  have ho := isGraphB_ord h
  unfold nearL
  rw [List.pairwise_map, List.pairwise_filter]
  have key : l.Pairwise fun x y => barLe x y = true ∧ (x.1 < x.2 ∧ y.1 < y.2) := by
    refine List.pairwise_iff_getElem.2 fun i j hi hj hij => ⟨List.pairwise_iff_getElem.1 ho i j hi hj hij, ?_, ?_⟩
    · have := isGraphB_bar h (List.getElem?_eq_getElem hi); omega
    · have := isGraphB_bar h (List.getElem?_eq_getElem hj); omega
  refine key.imp fun {x y} h1 hx hy => ?_
  obtain ⟨h1, h2, h3⟩ := h1
  rw [barLe_iff] at h1
  simp only [hasV, Bool.or_eq_true, beq_iff_eq] at hx hy
  omega
theorem srt_near {p : Int} {l : List BarT} (v : Int) (h : isGraphB (p, l) = true) : srtL (nearL l v) = nearL l v := by
  unfold srtL
  exact List.mergeSort_of_pairwise ((near_sorted v h).imp fun h => by simpa [leB] using h)
theorem near_bd {p : Int} {l : List BarT} {v : Int} (h : isGraphB (p, l) = true) (hv : 0 ≤ v ∧ v ≤ 64) : ∀ x ∈ nearL l v, -100 ≤ x ∧ x ≤ 100 := by
  intro x hx
  unfold nearL at hx
  obtain ⟨y, hy, rfl⟩ := List.mem_map.1 hx
  obtain ⟨k, hk⟩ := List.getElem?_of_mem (List.mem_filter.1 hy).1
  have := isGraphB_bar h hk
  have := isGraphB_bd h
  omega
/-- a point with two bars is left out -/
def und1 (l : List BarT) (v : Nat) : Option (List BarT × StepT) :=
  if (nearL l v).length = 2 then some (dropL l v, (1, (v : Int), gI (nearL l v) 0, gI (nearL l v) 1, 0)) else none
def undA (l : List BarT) (v k : Nat) : Int := gI (nearL l v) (k % 3)
def undX (l : List BarT) (v k : Nat) : List BarT := putL (dropL l v) (min (undA l v k) (undA l v (k + 1)), max (undA l v k) (undA l v (k + 1)))
def undT (l : List BarT) (v k : Nat) : StepT := (2, (v : Int), min (undA l v k) (undA l v (k + 1)), max (undA l v k) (undA l v (k + 1)), undA l v (k + 2))
/-- a point with three bars is left out, a bar between two of its far ends is laid -/
def und3 (p : Int) (l : List BarT) (v k : Nat) : Option (List BarT × StepT) :=
  if sparseB (p, undX l v k) 2 3 = true then some (undX l v k, undT l v k) else none
def und2 (p : Int) (l : List BarT) (v : Nat) : Option (List BarT × StepT) :=
  if (nearL l v).length = 3 then firstS (und3 p l v) 3 else none
def undoL (p : Int) (l : List BarT) : Option (List BarT × StepT) := match firstS (und1 l) p.toNat with
  | some r => some r
  | none => firstS (und2 p l) p.toNat
theorem undoL_hit1 {p : Int} {l : List BarT} {v : Nat} (hn : ∀ j, j < v → und1 l j = none) (hv : v < p.toNat) (h : (nearL l v).length = 2) : undoL p l = some (dropL l v, (1, (v : Int), gI (nearL l v) 0, gI (nearL l v) 1, 0)) := by
  unfold undoL
  rw [firstS_hit hn (show und1 l v = some _ from if_pos h) _ hv]
theorem und1_no {l : List BarT} {v : Nat} (h : ¬ (nearL l v).length = 2) : und1 l v = none := if_neg h
theorem undoL_rest {p : Int} {l : List BarT} (hn : ∀ j, j < p.toNat → und1 l j = none) : undoL p l = firstS (und2 p l) p.toNat := by
  unfold undoL
  rw [firstS_none _ hn]
theorem und2_no {p : Int} {l : List BarT} {v : Nat} (h : ¬ (nearL l v).length = 3) : und2 p l v = none := if_neg h
theorem und2_none {p : Int} {l : List BarT} {v : Nat} (h : ∀ j, j < 3 → und3 p l v j = none) : und2 p l v = none := by
  unfold und2
  rw [firstS_none _ h]
  split <;> rfl
theorem und3_no {p : Int} {l : List BarT} {v k : Nat} (h : sparseB (p, undX l v k) 2 3 = false) : und3 p l v k = none := if_neg (by rw [h]; simp)
theorem und2_hit {p : Int} {l : List BarT} {v k : Nat} (h3 : (nearL l v).length = 3) (hn : ∀ j, j < k → und3 p l v j = none) (hk : k < 3) (h : sparseB (p, undX l v k) 2 3 = true) : und2 p l v = some (undX l v k, undT l v k) := by
  unfold und2
  rw [if_pos h3, firstS_hit hn (show und3 p l v k = some _ from if_pos h) _ hk]
theorem firstS_hit2 {p : Int} {l : List BarT} {v : Nat} {r : List BarT × StepT} (hn : ∀ j, j < v → und2 p l j = none) (hv : v < p.toNat) (h : und2 p l v = some r) : firstS (und2 p l) p.toNat = some r := firstS_hit hn h _ hv
theorem und1_len {l : List BarT} {v : Nat} {x : List BarT} {s : StepT} (h : und1 l v = some (x, s)) : x.length + 2 = l.length := by
  unfold und1 at h
  split at h
  · rename_i h2
    have := near_drop l v
    simp only [Option.some.injEq, Prod.mk.injEq] at h
    rw [← h.1]; omega
  · simp at h
theorem und3_len {p : Int} {l : List BarT} {v k : Nat} {x : List BarT} {s : StepT} (h3 : (nearL l v).length = 3) (h : und3 p l v k = some (x, s)) : x.length + 2 = l.length := by
  unfold und3 at h
  split at h
  · have := near_drop l v
    simp only [Option.some.injEq, Prod.mk.injEq] at h
    rw [← h.1, undX, putL_length]; omega
  · simp at h
theorem und2_some {p : Int} {l : List BarT} {v : Nat} {r : List BarT × StepT} (h : und2 p l v = some r) : (nearL l v).length = 3 ∧ ∃ k, k < 3 ∧ und3 p l v k = some r := by
  unfold und2 at h
  split at h
  · rename_i h3
    exact ⟨h3, firstS_some _ h⟩
  · simp at h
theorem undoL_some {p : Int} {l : List BarT} {r : List BarT × StepT} (h : undoL p l = some r) : (∃ v, v < p.toNat ∧ und1 l v = some r) ∨ ∃ v, v < p.toNat ∧ und2 p l v = some r := by
  unfold undoL at h
  cases h1 : firstS (und1 l) p.toNat with
  | some r' => rw [h1] at h; exact .inl (firstS_some _ (by rw [h1]; exact h))
  | none => rw [h1] at h; exact .inr (firstS_some _ h)
theorem undoL_len {p : Int} {l x : List BarT} {s : StepT} (h : undoL p l = some (x, s)) : x.length + 2 = l.length := by
  rcases undoL_some h with ⟨v, _, h1⟩ | ⟨v, _, h1⟩
  · exact und1_len h1
  · obtain ⟨h3, k, _, hk⟩ := und2_some h1
    exact und3_len h3 hk
theorem sparseB_graph {g : GraphT} {k r : Int} (h : sparseB g k r = true) : isGraphB g = true := by
  unfold sparseB at h
  simp only [Bool.and_eq_true] at h
  exact h.1.1
theorem undoL_graph {p : Int} {l x : List BarT} {s : StepT} (hg : isGraphB (p, l) = true) (h : undoL p l = some (x, s)) : isGraphB (p, x) = true := by
  rcases undoL_some h with ⟨v, _, h1⟩ | ⟨v, _, h1⟩
  · unfold und1 at h1
    split at h1
    · simp only [Option.some.injEq, Prod.mk.injEq] at h1
      rw [← h1.1]
      exact dropL_graph _ hg
    · simp at h1
  · obtain ⟨h3, k, _, hk⟩ := und2_some h1
    unfold und3 at hk
    split at hk
    · rename_i hs
      simp only [Option.some.injEq, Prod.mk.injEq] at hk
      rw [← hk.1]
      exact sparseB_graph hs
    · simp at hk
/-- all steps undone, the last one ahead -/
def fndL (p : Int) : Nat → List BarT → List StepT → Option (List StepT)
  | 0, _, _ => none
  | f + 1, l, out => if 1 < l.length then match undoL p l with
      | some (x, s) => fndL p f x (s :: out)
      | none => none
    else some ((0, 0, (gB l 0).1, (gB l 0).2, 0) :: out)
def findA (p : Int) (l : List BarT) : List StepT × Bool :=
  if (minB (p, l) && !(l.length == 0)) = true then match fndL p l.length l [] with
    | some s => (s, true)
    | none => ([], false)
  else ([], false)
theorem minB_len {p : Int} {l : List BarT} (h : minB (p, l) = true) : isGraphB (p, l) = true ∧ (l.length = 0 ∨ ((l.length : Int) = 2 * p - 3)) := by
  unfold minB freeG at h
  simp only [Bool.and_eq_true, beq_iff_eq] at h
  obtain ⟨h1, h2⟩ := h
  split at h1
  · rename_i hg
    (try dsimp only at h1); (try dsimp only at h2)
    exact ⟨hg, by omega⟩
  · omega
theorem fndL_end {p : Int} {f : Nat} {l : List BarT} {out : List StepT} (h : l.length = 1) (hf : l.length ≤ f) : fndL p f l out = some ((0, 0, (gB l 0).1, (gB l 0).2, 0) :: out) := by
  cases f with
  | zero => omega
  | succ f => exact if_neg (by omega)
theorem fndL_yes {p : Int} {f : Nat} {l x : List BarT} {s : StepT} {out : List StepT} (h : 1 < l.length) (hf : l.length ≤ f) (hu : undoL p l = some (x, s)) : ∃ f', x.length ≤ f' ∧ fndL p f l out = fndL p f' x (s :: out) := by
  have hl := undoL_len hu
  cases f with
  | zero => omega
  | succ f => exact ⟨f, by omega, by show (if 1 < l.length then _ else _) = _; rw [if_pos h, hu]⟩
theorem fndL_no {p : Int} {f : Nat} {l : List BarT} {out : List StepT} (h : 1 < l.length) (hu : undoL p l = none) : fndL p f l out = none := by
  cases f with
  | zero => rfl
  | succ f => show (if 1 < l.length then _ else _) = _; rw [if_pos h, hu]
end Go.Proofs.YtfdhbbhfilkafaaGreat
