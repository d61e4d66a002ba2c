/- The plain law of ArePackedTrees; slices.Sort on a slice of ints of the call's own. No condition but sizes. -/
import Derived.Test.YtjlhmaplfbdpmaaFoh
import Derived.Test.YtjlhmaplfbdpmaaSrt
import Derived.Sort.Grow
namespace Go.Proofs.Ytjlhmaplfbdpmaa
open Go.RowKit
set_option maxRecDepth 100000
set_option linter.unusedVariables false
set_option linter.unusedSimpArgs false

def leB (x y : Int) : Bool := decide (x ≤ y)
def srtL (F : List Int) : List Int := F.mergeSort leB
theorem srtL_perm (F : List Int) : (srtL F).Perm F := List.mergeSort_perm _ _
theorem srtL_length (F : List Int) : (srtL F).length = F.length := (srtL_perm F).length_eq
theorem srtL_sorted (F : List Int) : (srtL F).Pairwise (· ≤ ·) := by
  have h := List.pairwise_mergeSort (le := leB) (fun a b c h1 h2 => by simp only [leB, decide_eq_true_eq] at *; omega) (fun a b => by simp only [leB, Bool.or_eq_true, decide_eq_true_eq]; omega) F
  exact h.imp fun h => by simpa [leB] using h
theorem setB_range {p : Int} {l : List BarT} {s : List Int} (h : setB (p, l) s = true) : ∀ x ∈ s, 0 ≤ x ∧ x ≤ (l.length : Int) - 1 := by
  intro x hx
  obtain ⟨i, hi⟩ := List.getElem?_of_mem hx
  have hl := lt_of_getElem? hi
  simp only [setB, Bool.and_eq_true] at h
  have h1 := List.all_eq_true.1 h.1 i (List.mem_range.2 hl)
  simp only [setAt, hi, Option.getD_some, Bool.and_eq_true, inB, decide_eq_true_eq] at h1
  exact h1.1
theorem setB_graph {g : GraphT} {s : List Int} (h : setB g s = true) : isGraphB g = true := by
  simp only [setB, Bool.and_eq_true] at h; exact h.2
theorem setB_srt {p : Int} {l : List BarT} {F : List Int} (hg : isGraphB (p, l) = true) (hr : ∀ x ∈ F, 0 ≤ x ∧ x ≤ (l.length : Int) - 1) : setB (p, l) (srtL F) = decide F.Nodup := by
  by_cases hn : F.Nodup
  · rw [decide_eq_true hn]
    have hn2 : (srtL F).Nodup := (srtL_perm F).nodup_iff.2 hn
    have hs := srtL_sorted F
    simp only [setB, hg, Bool.and_true, List.all_eq_true]
    intro i hi
    have hi := List.mem_range.1 hi
    have e : (srtL F)[i]?.getD 0 = (srtL F)[i] := by rw [List.getElem?_eq_getElem hi]; rfl
    have hm := hr _ ((srtL_perm F).mem_iff.1 (List.getElem_mem hi))
    simp only [setAt, e, Bool.and_eq_true, Bool.or_eq_true, inB, decide_eq_true_eq]
    refine ⟨hm, ?_⟩
    by_cases h0 : i = 0
    · left; simp [h0]
    · right
      have e2 : (srtL F)[i - 1]?.getD 0 = (srtL F)[i - 1] := by rw [List.getElem?_eq_getElem (by omega)]; rfl
      rw [e2]
      have h1 := List.pairwise_iff_getElem.1 hs (i - 1) i (by omega) hi (by omega)
      have h2 := List.pairwise_iff_getElem.1 hn2 (i - 1) i (by omega) hi (by omega)
      omega
  · rw [decide_eq_false hn]
    cases h : setB (p, l) (srtL F) with
    | false => rfl
    | true =>
      have h1 := setB_sorted h
      exact absurd ((srtL_perm F).nodup_iff.1 (h1.imp fun h => Int.ne_of_lt h)) hn
theorem sptB_set {g : GraphT} {s : List Int} (h : sptB g s = true) : setB g s = true := by
  simp only [sptB, frstB, Bool.and_eq_true] at h; exact h.1.1
def packB (mk : Int) (g : GraphT) (k : Int) (l : List (List Int)) : Bool :=
  (l.all (sptB g) && decide l.flatten.Nodup) && ((isGraphB g && inB k 1 mk) && (((l.length : Int) == k) && ((l.flatten.length : Int) == (g.2.length : Int))))
theorem pack_span {mk : Int} {g : GraphT} {k : Int} {l : List (List Int)} {i : Nat} {s : List Int} (hi : l[i]? = some s) (h : sptB g s = false) : packB mk g k l = false := by
  have : l.all (sptB g) = false := List.all_eq_false.2 ⟨s, List.mem_of_getElem? hi, by simp [h]⟩
  unfold packB; rw [this]; rfl
theorem flat_split {l : List (List Int)} {i : Nat} {s : List Int} (hi : l[i]? = some s) : l.flatten = (l.take i).flatten ++ (s ++ (l.drop (i + 1)).flatten) := by
  have hl := lt_of_getElem? hi
  obtain ⟨_, rfl⟩ := List.getElem?_eq_some_iff.1 hi
  have e : l = l.take i ++ l[i] :: l.drop (i + 1) := by rw [← List.drop_eq_getElem_cons hl, List.take_append_drop]
  exact (congrArg List.flatten e).trans (by rw [List.flatten_append, List.flatten_cons])
theorem pack_dup {mk : Int} {g : GraphT} {k : Int} {l : List (List Int)} {i n : Nat} {s : List Int} {x : Int} (hi : l[i]? = some s) (hx : s[n]? = some x) (h : x ∈ (l.take i).flatten ++ s.take n) : packB mk g k l = false := by
  have hnd : ¬ l.flatten.Nodup := by
    intro hn
    have hl := lt_of_getElem? hx
    have e : l.flatten = ((l.take i).flatten ++ s.take n) ++ (x :: (s.drop (n + 1) ++ (l.drop (i + 1)).flatten)) := by
      rw [flat_split hi]
      obtain ⟨_, rfl⟩ := List.getElem?_eq_some_iff.1 hx
      have e2 : s = s.take n ++ s[n] :: s.drop (n + 1) := by rw [← List.drop_eq_getElem_cons hl, List.take_append_drop]
      have e3 : s ++ (l.drop (i + 1)).flatten = (s.take n ++ s[n] :: s.drop (n + 1)) ++ (l.drop (i + 1)).flatten := congrArg (· ++ (l.drop (i + 1)).flatten) e2
      rw [e3]
      simp only [List.append_assoc, List.cons_append]
    rw [e] at hn
    have h3 := (List.nodup_append.1 hn).2.2
    exact h3 x h x List.mem_cons_self rfl
  unfold packB; rw [decide_eq_false hnd, Bool.and_false, Bool.false_and]
theorem pack_end {mk : Int} {g : GraphT} {k : Int} {l : List (List Int)} (h1 : l.all (sptB g) = true) (h2 : l.flatten.Nodup) : packB mk g k l = ((isGraphB g && inB k 1 mk) && (((l.length : Int) == k) && ((l.flatten.length : Int) == (g.2.length : Int)))) := by
  unfold packB; rw [h1, decide_eq_true h2]; rfl
theorem pack_k {mk : Int} {g : GraphT} {k : Int} {l : List (List Int)} (h : inB k 1 mk = false) : packB mk g k l = false := by
  unfold packB; rw [h, Bool.and_false, Bool.false_and, Bool.and_false]
theorem pack_len {mk : Int} {g : GraphT} {k : Int} {l : List (List Int)} (h : ((l.length : Int) == k) = false) : packB mk g k l = false := by
  unfold packB; rw [h, Bool.false_and, Bool.and_false, Bool.and_false]
theorem pack_impl {mk : Int} {p : Int} {lb : List BarT} {k : Int} {l : List (List Int)} (hk : inB k 1 mk = true) (hl : ((l.length : Int) == k) = true) (h1 : l.all (sptB (p, lb)) = true) :
    packB mk (p, lb) k l = (setB (p, lb) (srtL l.flatten) && ((l.flatten.length : Int) == (lb.length : Int))) := by
  have hk1 : 1 ≤ k := by simp only [inB, Bool.and_eq_true, decide_eq_true_eq] at hk; exact hk.1
  have hl1 := eq_of_beq hl
  have hne : 0 < l.length := by omega
  have hs := List.all_eq_true.1 h1
  have hg : isGraphB (p, lb) = true := setB_graph (sptB_set (hs _ (List.getElem_mem hne)))
  have hr : ∀ x ∈ l.flatten, 0 ≤ x ∧ x ≤ (lb.length : Int) - 1 := fun x hx => by
    obtain ⟨s, hsm, hxs⟩ := List.mem_flatten.1 hx
    exact setB_range (sptB_set (hs s hsm)) x hxs
  rw [setB_srt hg hr]
  unfold packB
  rw [h1, hg, hk, hl]
  simp only [Bool.true_and]
theorem flat_len : ∀ (l : List (List Int)), l.flatten.length = sumLen l
  | [] => rfl
  | x :: t => by
    have := flat_len t
    simp only [List.flatten_cons, List.length_append, this, sumLen, List.map_cons, List.sum_cons]

/-! ### the sort -/
theorem holdsI_of_block {w : World} {g : Nat} {cur : Array Value} {e : TypeId} {ss : List Int} (hb : w.heap[g]? = some (.cells cur e (0, 0))) (ht : cur.toList.take ss.length = ss.map (Value.int .i64)) : Go.Sort.Holds (Value.int .i64) w g 0 ss.toArray := by
  intro j hj
  have hj' : j < ss.length := by simpa using hj
  refine ⟨?_, by simp [World.frozen?, hb]⟩
  have h1 : (cur.toList.take ss.length)[j]? = (ss.map (Value.int .i64))[j]? := by rw [ht]
  rw [List.getElem?_take_of_lt hj'] at h1
  simp only [World.cell?, hb, Nat.zero_add]
  simp only [Option.isSome_none, Bool.false_eq_true, if_false]
  rw [← Array.getElem?_toList, h1]
  simp [hj']
theorem heapI_sorted {w : World} {g n : Nat} {os : Array Obj} {cur : Array Value} {e : TypeId} {fr : Nat × Nat} (d : Array Int) (hb : w.heap[g]? = some (.cells cur e fr)) :
    (Go.Sort.grow (Go.Sort.putRow (Value.int .i64) (Go.Sort.ahead w n) g 0 d) os).heap[g]? = some (.cells (Go.Sort.putCells (Value.int .i64) 0 d cur) e fr) := by
  have hg : g < w.heap.size := (Array.getElem?_eq_some_iff.1 hb).1
  rw [Go.Sort.heap_grow_old _ _ (by simpa using hg)]
  simp [Go.Sort.putRow, Go.Sort.mapBlock, Go.Sort.ahead, Array.getElem?_modify, hb, Go.Sort.onCells]
theorem keptI_sorted {w : World} {g n : Nat} {os : Array Obj} (d : Array Int) : Kept (fun k => k = g) w (Go.Sort.grow (Go.Sort.putRow (Value.int .i64) (Go.Sort.ahead w n) g 0 d) os) := by
  refine ⟨rfl, rfl, rfl, by simp, fun k hk hne => ?_⟩
  rw [Go.Sort.heap_grow_old _ _ (by simpa using hk)]
  have : g ≠ k := fun e => hne e.symm
  simp [Go.Sort.putRow, Go.Sort.mapBlock, Go.Sort.ahead, Array.getElem?_modify, this]
theorem takeI_putCells (cur : Array Value) (ts : List Int) (h : ts.length ≤ cur.size) : (Go.Sort.putCells (Value.int .i64) 0 ts.toArray cur).toList.take ts.length = ts.map (Value.int .i64) := by
  apply List.ext_getElem?
  intro j
  by_cases hj : j < ts.length
  · rw [List.getElem?_take_of_lt hj, Array.getElem?_toList]
    simp [Go.Sort.putCells, hj, show j < cur.size by omega]
  · rw [List.getElem?_take_eq_none (by omega), List.getElem?_eq_none (by simp; omega)]
theorem ownI_sorted {w : World} {base g cap n : Nat} {e : TypeId} {os : Array Obj} {cur : Array Value} {ss ts : List Int} (hl : ts.length = ss.length) (hbase : base ≤ g) (hb : w.heap[g]? = some (.cells cur e (0, 0)))
    (h1 : ss.length ≤ cap) (h2 : cap ≤ maxLen) (h3 : cur.size = cap * 1) :
    (Go.Sort.grow (Go.Sort.putRow (Value.int .i64) (Go.Sort.ahead w n) g 0 ts.toArray) os).ownsRow base e 1 (.slice (some ⟨g, 0, none⟩) ss.length cap) ss.length (ts.map (Value.int .i64)) :=
  ⟨by simp [hl], .inr ⟨g, cap, _, rfl, hbase, heapI_sorted _ hb, h1, h2, by simp [Go.Sort.putCells, h3], by rw [Nat.mul_one, ← hl]; exact takeI_putCells cur ts (by omega)⟩⟩

/-- slices.Sort of a slice of the call's own -/
theorem sort_own (W : World) (base : Nat) (v : Value) (F : List Int) (h : OwnInts W base v F) (hn : F.length ≤ 1099511627776) :
    Calls Try.prog 38 #[v] W fun e w' => e = .returned (.tuple #[]) ∧ OwnInts w' base v (srtL F) ∧ Kept (fun k => some k = v.ownBlock) W w' := by
  by_cases h0 : F.length = 0
  · have hF : F = [] := List.eq_nil_of_length_eq_zero h0
    subst hF
    obtain ⟨a, cap, rfl, _⟩ := h.form
    refine (Try.slices_Sort_int_none a cap W).mono ?_
    rintro e w' ⟨rfl, rfl⟩
    exact ⟨rfl, by simpa [srtL] using h, Kept.refl _ _⟩
  · have h2 := h
    rcases h.2 with ⟨_, e0⟩ | ⟨g, cap, cur, rfl, hb, hg, hnc, hcm, hcs, htake⟩
    · exact absurd e0 h0
    · refine (Try.slices_Sort_int g 0 cap F W (holdsI_of_block hg (by simpa using htake)) (Array.getElem?_eq_some_iff.1 hg).1 (by omega)).mono ?_
      rintro e w' ⟨rfl, n, os, rfl⟩
      refine ⟨rfl, ?_, (keptI_sorted _).mono fun k _ hk => by subst hk; rfl⟩
      have h9 := ownI_sorted (n := n) (os := os) (ts := srtL F) (srtL_length F) hb hg hnc hcm hcs
      unfold OwnInts
      rw [srtL_length]
      exact h9
end Go.Proofs.Ytjlhmaplfbdpmaa
