/- slices.SortFunc of bars of the call's own: they are put in order; bars behind a list in order are each put in their place. No condition but sizes. -/
import Derived.Test.YtfdhbbhfilkafaaGreatSof0
import Derived.Test.YtfdhbbhfilkafaaGreatPut
import Derived.Test.YtfdhbbhfilkafaaGreatIsf
import Derived.Sort.Grow
import Derived.Shelf.SlSortCmp.NoneTotal
namespace Go.Proofs.YtfdhbbhfilkafaaGreat
open Go.RowKit
set_option maxRecDepth 100000
set_option linter.unusedVariables false
set_option linter.unusedSimpArgs false

theorem barLe_iff (x y : BarT) : barLe x y = true ↔ (x.1 < y.1 ∨ (x.1 = y.1 ∧ x.2 ≤ y.2)) := by
  simp [barLe]
theorem ltB (x y : BarT) : ltOf cmpB x y = decide (x.1 < y.1 ∨ (x.1 = y.1 ∧ x.2 < y.2)) := by
  unfold ltOf cmpB cmpI
  apply decide_eq_decide.2
  split <;> split <;> (try split) <;> (try split) <;> omega
theorem ltB_le : (fun x y : BarT => !(ltOf cmpB) y x) = barLe := by
  funext x y
  rw [ltB]
  cases h : barLe x y with
  | true => rw [barLe_iff] at h; simp; omega
  | false =>
    have : ¬ barLe x y = true := by simp [h]
    rw [barLe_iff] at this
    simp; omega
theorem swoB : Go.Sort.SWO (ltOf cmpB) where
  irrefl x := by rw [ltB]; simp
  trans x y z h1 h2 := by rw [ltB] at *; simp at *; omega
  ntrans x y z h1 h2 := by rw [ltB] at *; simp at *; omega
theorem totB (x y : BarT) (h1 : ltOf cmpB x y = false) (h2 : ltOf cmpB y x = false) : x = y := by
  rw [ltB] at h1 h2
  simp at h1 h2
  obtain ⟨a, b⟩ := x; obtain ⟨c, d⟩ := y
  dsimp only at h1 h2
  have e1 : a = c := by omega
  have e2 : b = d := by omega
  rw [e1, e2]
def sortB (l : List BarT) : List BarT := l.mergeSort barLe
theorem sortB_perm (l : List BarT) : (sortB l).Perm l := List.mergeSort_perm _ _
theorem sortB_length (l : List BarT) : (sortB l).length = l.length := (sortB_perm l).length_eq
def Ord (l : List BarT) : Prop := l.Pairwise fun x y => barLe x y = true
theorem sortB_ord (l : List BarT) : Ord (sortB l) :=
  List.pairwise_mergeSort (le := barLe) (fun a b c h1 h2 => by rw [barLe_iff] at *; omega) (fun a b => by
    rw [Bool.or_eq_true, barLe_iff, barLe_iff]; omega) l
theorem ord_uniq : ∀ {l m : List BarT}, l.Perm m → Ord l → Ord m → l = m
  | [], m, hp, _, _ => (List.Perm.nil_eq hp)
  | a :: l, [], hp, _, _ => by have := hp.length_eq; simp at this
  | a :: l, b :: m, hp, hl, hm => by
    have hl' := List.pairwise_cons.1 hl
    have hm' := List.pairwise_cons.1 hm
    have hab : a = b := by
      rcases List.mem_cons.1 (hp.mem_iff.1 (List.mem_cons_self (a := a) (l := l))) with h | h
      · exact h
      · rcases List.mem_cons.1 (hp.mem_iff.2 (List.mem_cons_self (a := b) (l := m))) with h2 | h2
        · exact h2.symm
        · have e1 := hm'.1 a h
          have e2 := hl'.1 b h2
          rw [barLe_iff] at e1 e2
          obtain ⟨a1, a2⟩ := a; obtain ⟨b1, b2⟩ := b
          dsimp only at e1 e2
          have e3 : a1 = b1 := by omega
          have e4 : a2 = b2 := by omega
          rw [e3, e4]
    subst hab
    rw [ord_uniq (List.Perm.cons_inv hp) hl'.2 hm'.2]
theorem putL_perm (l : List BarT) (x : BarT) : (putL l x).Perm (x :: l) := by
  induction l with
  | nil => exact List.Perm.refl _
  | cons y t ih =>
    unfold putL
    split
    · exact (List.Perm.cons y ih).trans (List.Perm.swap x y t)
    · exact List.Perm.refl _
theorem putL_ord {l : List BarT} (x : BarT) (h : Ord l) : Ord (putL l x) := by
  induction l with
  | nil => exact List.pairwise_singleton _ _
  | cons y t ih =>
    have h' := List.pairwise_cons.1 h
    unfold putL
    split
    · rename_i e
      refine List.pairwise_cons.2 ⟨fun z hz => ?_, ih h'.2⟩
      rcases mem_putL.1 hz with rfl | hz
      · exact e
      · exact h'.1 z hz
    · rename_i e
      have e' : barLe x y = true := by
        have : ¬ barLe y x = true := e
        rw [barLe_iff] at this ⊢
        omega
      refine List.pairwise_cons.2 ⟨fun z hz => ?_, h⟩
      rcases List.mem_cons.1 hz with rfl | hz
      · exact e'
      · have e2 := h'.1 z hz
        rw [barLe_iff] at *
        omega
def putsL (l : List BarT) (xs : List BarT) : List BarT := xs.foldl putL l
theorem putsL_perm : ∀ (xs l : List BarT), (putsL l xs).Perm (l ++ xs)
  | [], l => by simp [putsL]
  | x :: xs, l => by
    have h := putsL_perm xs (putL l x)
    refine h.trans ((List.Perm.append_right xs (putL_perm l x)).trans ?_)
    exact (List.perm_middle (a := x) (l₁ := l) (l₂ := xs)).symm
theorem putsL_ord : ∀ (xs : List BarT) {l : List BarT}, Ord l → Ord (putsL l xs)
  | [], _, h => h
  | x :: xs, _, h => putsL_ord xs (putL_ord x h)
theorem sortB_puts {l : List BarT} (xs : List BarT) (h : Ord l) : sortB (l ++ xs) = putsL l xs :=
  ord_uniq ((sortB_perm _).trans (putsL_perm xs l).symm) (sortB_ord _) (putsL_ord xs h)
theorem putsL_length (l xs : List BarT) : (putsL l xs).length = l.length + xs.length := by
  rw [(putsL_perm xs l).length_eq, List.length_append]

/-! ### the walk -/
set_option maxHeartbeats 1000000 in
theorem compareBars_lays (x y : BarT) (w : World) :
    Calls Tryz.prog 123 #[.agg #[.int .i64 x.1, .int .i64 x.2], .agg #[.int .i64 y.1, .int .i64 y.2]] w fun e w' => e = .returned (.int .i64 (cmpB x y)) ∧ ∃ q os', w' = Go.Sort.grow (w.drewN q) os' := by
  obtain ⟨x1, x2⟩ := x
  obtain ⟨y1, y2⟩ := y
  dsimp only
  by_cases h1 : cmpI x1 y1 = 0
  · have HF := Lib.hid (ret_int (k := .i64) (show cmpB (x1, x2) (y1, y2) = cmpI x2 y2 by simp [cmpB, h1]))
    have H1 := Lib.hid h1
    clear h1
    go_enter Tryz.func123, Tryz.ntmps123
    go_wp2_with fail
    refine (compareInts_any _ _ _).mono ?_
    rintro e w1 ⟨rfl, rfl⟩
    rw [H1.out]
    go_wp2_with fail
    refine (compareInts_any _ _ _).mono ?_
    rintro e w1 ⟨rfl, rfl⟩
    go_wp2_with fail
    go_ret
    exact ⟨HF.out.symm, 0, _, by rw [Go.Sort.alloc_eq_grow, Go.Sort.alloc_eq_grow, Go.Sort.grow_grow]; rfl⟩
  · have HF := Lib.hid (ret_int (k := .i64) (show cmpB (x1, x2) (y1, y2) = cmpI x1 y1 by simp [cmpB, h1]))
    have h1' : (cmpI x1 y1 != 0) = true := by simpa using h1
    clear h1
    go_enter Tryz.func123, Tryz.ntmps123
    go_wp2_with fail
    refine (compareInts_any _ _ _).mono ?_
    rintro e w1 ⟨rfl, rfl⟩
    go_wp2_with fail
    go_ret
    exact ⟨HF.out.symm, 0, _, by rw [Go.Sort.alloc_eq_grow, Go.Sort.alloc_eq_grow, Go.Sort.grow_grow]; rfl⟩

theorem flatK_bars (l : List BarT) : (Go.Sort.flatK cellsBar 2 l.toArray).toList = l.flatMap cellsBar := by
  apply List.ext_getElem?
  intro j
  by_cases hj : j < l.length * 2
  · have e1 : ∀ (l : List BarT) (j : Nat), j < l.length * 2 → (l.flatMap cellsBar)[j]? = some (cellsBar (l[j / 2]!))[j % 2]! := by
      intro l
      induction l with
      | nil => intro j h; simp at h
      | cons y t ih =>
        intro j h
        rw [List.flatMap_cons]
        by_cases h2 : j < 2
        · rw [List.getElem?_append_left (by simpa [cellsBar] using h2)]
          obtain rfl | rfl : j = 0 ∨ j = 1 := by omega
          · rfl
          · rfl
        · rw [List.getElem?_append_right (by simp [cellsBar]; omega)]
          have e2 : (cellsBar y).length = 2 := rfl
          have e3 : j / 2 = (j - 2) / 2 + 1 := by omega
          have e4 : j % 2 = (j - 2) % 2 := by omega
          rw [e2, ih (j - 2) (by simp at h; omega), e3, e4]
          rfl
    rw [e1 l j hj, Array.getElem?_toList]
    have e5 := Go.Sort.get_flatK cellsBar 2 l.toArray j (by simpa using hj)
    have e6 : j < (Go.Sort.flatK cellsBar 2 l.toArray).size := by simpa using hj
    rw [getElem!_pos (Go.Sort.flatK cellsBar 2 l.toArray) j e6] at e5
    rw [Array.getElem?_eq_getElem e6, e5]
    simp
  · rw [List.getElem?_eq_none (by simp; omega), List.getElem?_eq_none (by rw [flat2 cellsBar (fun _ => rfl)]; omega)]
theorem holdsV_of_block {w : World} {g : Nat} {cur : Array Value} {e : TypeId} {F : Array Value} (hb : w.heap[g]? = some (.cells cur e (0, 0))) (ht : cur.toList.take F.size = F.toList) : Go.Sort.Holds id w g 0 F := by
  intro j hj
  refine ⟨?_, by simp [World.frozen?, hb]⟩
  have h1 : (cur.toList.take F.size)[j]? = F.toList[j]? := by rw [ht]
  rw [List.getElem?_take_of_lt hj] at h1
  simp only [World.cell?, hb, Nat.zero_add]
  simp only [Option.isSome_none, Bool.false_eq_true, if_false]
  rw [← Array.getElem?_toList, h1]
  simp [hj]
theorem heapV_sorted {w : World} {g n : Nat} {os : Array Obj} {cur : Array Value} {e : TypeId} {fr : Nat × Nat} (d : Array Value) (hb : w.heap[g]? = some (.cells cur e fr)) :
    (Go.Sort.grow (Go.Sort.putRow id (Go.Sort.ahead w n) g 0 d) os).heap[g]? = some (.cells (Go.Sort.putCells id 0 d cur) e fr) := by
  have hg : g < w.heap.size := (Array.getElem?_eq_some_iff.1 hb).1
  rw [Go.Sort.heap_grow_old _ _ (by simpa using hg)]
  simp [Go.Sort.putRow, Go.Sort.mapBlock, Go.Sort.ahead, Array.getElem?_modify, hb, Go.Sort.onCells]
theorem keptV_sorted {w : World} {g n : Nat} {os : Array Obj} (d : Array Value) : Kept (fun k => k = g) w (Go.Sort.grow (Go.Sort.putRow id (Go.Sort.ahead w n) g 0 d) os) := by
  refine ⟨rfl, rfl, rfl, by simp, fun k hk hne => ?_⟩
  rw [Go.Sort.heap_grow_old _ _ (by simpa using hk)]
  have : g ≠ k := fun e => hne e.symm
  simp [Go.Sort.putRow, Go.Sort.mapBlock, Go.Sort.ahead, Array.getElem?_modify, this]
theorem takeV_putCells (cur : Array Value) (F : Array Value) (h : F.size ≤ cur.size) : (Go.Sort.putCells id 0 F cur).toList.take F.size = F.toList := by
  apply List.ext_getElem?
  intro j
  by_cases hj : j < F.size
  · rw [List.getElem?_take_of_lt hj, Array.getElem?_toList]
    simp [Go.Sort.putCells, hj, show j < cur.size by omega]
  · rw [List.getElem?_take_eq_none (by omega), List.getElem?_eq_none (by simp; omega)]
/-- slices.SortFunc of bars of the call's own -/
theorem sortFunc_own (W : World) (base : Nat) (v : Value) (l : List BarT) (h : OwnBars W base v l) (hn : l.length ≤ 1099511627776) :
    Calls Tryz.prog 138 #[v, .func (.func 123) #[] #[]] W fun e w' => e = .returned (.tuple #[]) ∧ OwnBars w' base v (sortB l) ∧ Kept (fun k => some k = v.ownBlock) W w' := by
  by_cases h0 : l.length = 0
  · have hF : l = [] := List.eq_nil_of_length_eq_zero h0
    subst hF
    obtain ⟨a, cap, rfl, _⟩ := h.form
    refine (AnyF.slices_SortFunc_none Tryz.sortBars a cap _ W).mono ?_
    rintro e w' ⟨rfl, rfl⟩
    exact ⟨rfl, by simpa [sortB] using h, Kept.refl _ _⟩
  · rcases h.2 with ⟨_, e0⟩ | ⟨g, cap, cur, rfl, hb, hg, hnc, hcm, hcs, htake⟩
    · exact absurd e0 h0
    · have eg : ∀ args w, (callFunc 123 args).run Tryz.prog w = .ok (.enter 123 args) w := enters_of Tryz.func123 (by kernel_rfl) rfl
      have hsz : (Go.Sort.flatK cellsBar 2 l.toArray).size = l.length * 2 := by simp
      have hH : Go.Sort.HoldsK cellsBar 2 W g 0 l.toArray := holdsV_of_block hg (by rw [hsz, flatK_bars]; simpa using htake)
      have hcon := AnyQ.slices_SortFunc_total Tryz.sortBars 2 Tryz.isAgg78 Tryz.sizeOf78 cellsBar (fun _ => rfl) (fun x v hv => by simp [cellsBar] at hv; rcases hv with rfl | rfl <;> rfl) cmpB swoB 123 #[] g 0 cap l.toArray W eg (fun _ _ _ _ x y => compareBars_lays x y _) hH (Array.getElem?_eq_some_iff.1 hg).1 (by simp; omega) totB
      refine hcon.mono ?_
      rintro e w' ⟨rfl, n, os, rfl⟩
      rw [ltB_le]
      have hs2 : (Go.Sort.flatK cellsBar 2 (sortB l).toArray).size = l.length * 2 := by simp [sortB_length]
      refine ⟨rfl, ?_, (keptV_sorted _).mono fun k _ hk => by subst hk; rfl⟩
      unfold OwnBars
      rw [sortB_length]
      refine ⟨by rw [flat2 cellsBar (fun _ => rfl), sortB_length], .inr ⟨g, cap, _, rfl, hb, heapV_sorted _ hg, hnc, hcm, by simp [Go.Sort.putCells, hcs], ?_⟩⟩
      have h9 := takeV_putCells cur (Go.Sort.flatK cellsBar 2 (sortB l).toArray) (by rw [hs2, hcs]; exact Nat.mul_le_mul_right 2 hnc)
      rw [hs2, flatK_bars] at h9
      exact h9
end Go.Proofs.YtfdhbbhfilkafaaGreat
