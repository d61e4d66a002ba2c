/- Slices of slices of ints: what reads so, what the call owns. No condition. -/
import Derived.Test.YtfdhbbhfilkafaaElem
import Derived.Test.YtfdhbbhfilkafaaInts
namespace Go.Proofs.Ytfdhbbhfilkafaa
open Go.RowKit
set_option maxRecDepth 100000
set_option linter.unusedVariables false
set_option linter.unusedSimpArgs false

theorem infoInts : (Try.prog.info? 35).map (fun i => (i.zero, i.size, i.bytes)) = some (some (.slice none 0 0), 1, 24) := by kernel_rfl

/-- The slice value (a, n) reads as ll. -/
def IntssAt (W : World) (a : Option Addr) (n : Nat) (ll : List (List Int)) : Prop :=
  ll.length = n ∧ ∀ k, k < n → ∃ b off ar cr r, a = some ⟨b, off, none⟩ ∧ b < W.heap.size ∧ ll[k]? = some r ∧ W.cell? ⟨b, off + k, none⟩ = some (.slice ar r.length cr) ∧ IntsAt W ar r.length r
theorem IntssAt.below {W W' : World} {a : Option Addr} {n : Nat} {ll : List (List Int)} (h : IntssAt W a n ll) (hk : Below W.heap.size W W') : IntssAt W' a n ll :=
  ⟨h.1, fun k hkn => by
    obtain ⟨b, off, ar, cr, r, ha, hb, hx, hc, hi⟩ := h.2 k hkn
    exact ⟨b, off, ar, cr, r, ha, Nat.lt_of_lt_of_le hb hk.size, hx, (hk.cell (p := ⟨b, off + k, none⟩) hb).trans hc, hi.below hk⟩⟩
def IsIntss (W : World) (v : Value) (ll : List (List Int)) : Prop := ∃ a cap, v = .slice a ll.length cap ∧ IntssAt W a ll.length ll
theorem IsIntss.below {W W' : World} {v : Value} {ll : List (List Int)} (h : IsIntss W v ll) (hb : Below W.heap.size W W') : IsIntss W' v ll := by
  obtain ⟨a, cap, rfl, hi⟩ := h
  exact ⟨a, cap, rfl, hi.below hb⟩

/-- two values that lead to blocks of their own: not to one -/
def Apart (u v : Value) : Prop := ∀ g, u.ownBlock = some g → v.ownBlock ≠ some g
theorem Apart.symm {u v : Value} (h : Apart u v) : Apart v u := fun g h1 h2 => h g h2 h1

/-- The rows vs, each in a block of its own, read as ll. -/
structure IRows (W : World) (base : Nat) (vs : List Value) (ll : List (List Int)) : Prop where
  len : vs.length = ll.length
  own : ∀ (k : Nat) v r, vs[k]? = some v → ll[k]? = some r → OwnInts W base v r
  apart : vs.Pairwise Apart

theorem IRows.nil (W : World) (base : Nat) : IRows W base [] [] := ⟨rfl, fun k v r h => by simp at h, List.Pairwise.nil⟩
theorem IRows.get {W : World} {base : Nat} {vs : List Value} {ll : List (List Int)} (h : IRows W base vs ll) {k : Nat} (hk : k < ll.length) : ∃ v r, vs[k]? = some v ∧ ll[k]? = some r ∧ OwnInts W base v r := by
  have hk' : k < vs.length := by rw [h.len]; exact hk
  exact ⟨vs[k], ll[k], List.getElem?_eq_getElem hk', List.getElem?_eq_getElem hk, h.own k _ _ (List.getElem?_eq_getElem hk') (List.getElem?_eq_getElem hk)⟩
theorem IRows.ne {W : World} {base : Nat} {vs : List Value} {ll : List (List Int)} (h : IRows W base vs ll) {j k : Nat} {u v : Value} (hj : vs[j]? = some u) (hk : vs[k]? = some v) (hne : j ≠ k) : Apart u v := by
  obtain ⟨hjl, rfl⟩ := List.getElem?_eq_some_iff.1 hj
  obtain ⟨hkl, rfl⟩ := List.getElem?_eq_some_iff.1 hk
  have h2 := List.pairwise_iff_getElem.1 h.apart
  rcases Nat.lt_or_gt_of_ne hne with h1 | h1
  · exact h2 j k hjl hkl h1
  · exact (h2 k j hkl hjl h1).symm
theorem IRows.snoc {W : World} {base : Nat} {vs : List Value} {ll : List (List Int)} (h : IRows W base vs ll) {v : Value} {r : List Int} (hr : OwnInts W base v r) (hd : ∀ u ∈ vs, Apart u v) : IRows W base (vs ++ [v]) (ll ++ [r]) := by
  refine ⟨by simp [h.len], fun k u s hu hs => ?_, List.pairwise_append.2 ⟨h.apart, List.pairwise_singleton _ _, fun a ha b hb => by simp at hb; subst hb; exact hd a ha⟩⟩
  by_cases hk : k < vs.length
  · rw [List.getElem?_append_left hk] at hu
    rw [List.getElem?_append_left (by rw [← h.len]; exact hk)] at hs
    exact h.own k u s hu hs
  · have hk2 := lt_of_getElem? hu
    simp at hk2
    obtain rfl : k = vs.length := by omega
    rw [List.getElem?_append_right (Nat.le_refl _)] at hu
    rw [h.len, List.getElem?_append_right (Nat.le_refl _)] at hs
    simp at hu hs
    subst hu hs
    exact hr
theorem IRows.kept {S : Nat → Prop} {W W' : World} {base : Nat} {vs : List Value} {ll : List (List Int)} (h : IRows W base vs ll) (hk : Kept S W W') (hd : ∀ u ∈ vs, ∀ g, u.ownBlock = some g → ¬ S g) : IRows W' base vs ll :=
  ⟨h.len, fun k v r hv hr => hk.ownsRow (h.own k v r hv hr) (hd v (List.mem_of_getElem? hv)), h.apart⟩
theorem IRows.below {W W' : World} {base : Nat} {vs : List Value} {ll : List (List Int)} (h : IRows W base vs ll) (hb : Below W.heap.size W W') : IRows W' base vs ll := h.kept (Kept.of_below (S := fun _ => False) hb) fun _ _ _ _ => id
theorem IRows.mono {W : World} {base base' : Nat} {vs : List Value} {ll : List (List Int)} (h : IRows W base vs ll) (hb : base' ≤ base) : IRows W base' vs ll := ⟨h.len, fun k v r hv hr => ownsRow_base (h.own k v r hv hr) hb, h.apart⟩
theorem IRows.lt {W : World} {base : Nat} {vs : List Value} {ll : List (List Int)} (h : IRows W base vs ll) : ∀ u ∈ vs, ∀ g, u.ownBlock = some g → base ≤ g ∧ g < W.heap.size := by
  intro u hu g hg
  obtain ⟨k, hk⟩ := List.getElem?_of_mem hu
  have hkl := lt_of_getElem? hk
  obtain ⟨v, r, h1, h2, h3⟩ := h.get (k := k) (by rw [← h.len]; exact hkl)
  rw [hk] at h1
  obtain rfl := Option.some.inj h1
  exact h3.lt g hg
theorem IRows.mem {W : World} {base : Nat} {vs : List Value} {ll : List (List Int)} (h : IRows W base vs ll) {u : Value} (hu : u ∈ vs) : ∃ r, OwnInts W base u r := by
  obtain ⟨k, hk⟩ := List.getElem?_of_mem hu
  have hkl := lt_of_getElem? hk
  obtain ⟨v, r, h1, h2, h3⟩ := h.get (k := k) (by rw [← h.len]; exact hkl)
  rw [hk] at h1
  obtain rfl := Option.some.inj h1
  exact ⟨r, h3⟩
/-- one row is written -/
theorem IRows.wrote {W W' : World} {base : Nat} {vs : List Value} {ll : List (List Int)} (h : IRows W base vs ll) {k : Nat} {v : Value} {r' : List Int} (hv : vs[k]? = some v) (hk : Kept (fun g => some g = v.ownBlock) W W') (ho : OwnInts W' base v r') : IRows W' base vs (ll.set k r') := by
  refine ⟨by simp [h.len], fun j u s hu hs => ?_, h.apart⟩
  by_cases hjk : k = j
  · subst hjk
    rw [hv] at hu
    obtain rfl := Option.some.inj hu
    rw [List.getElem?_set_self (lt_of_getElem? (by rw [List.getElem?_eq_getElem (by rw [← h.len]; exact lt_of_getElem? hv)]))] at hs
    obtain rfl := Option.some.inj hs
    exact ho
  · rw [List.getElem?_set_ne hjk] at hs
    exact hk.ownsRow (h.own j u s hu hs) fun g hg hg2 => (h.ne hu hv (fun e => hjk e.symm)) g hg hg2.symm

/-- What the call made: a slice of slices. The outer block holds slices, the rows' blocks hold ints: they are apart by that. -/
def OwnIntss (W : World) (base : Nat) (v : Value) (ll : List (List Int)) : Prop := ∃ vs, W.ownsRow base 35 1 v ll.length vs ∧ IRows W base vs ll
theorem outer_apart {W : World} {base base' : Nat} {v u : Value} {n : Nat} {vs : List Value} {r : List Int} (h : W.ownsRow base 35 1 v n vs) (hr : OwnInts W base' u r) : Apart v u := by
  intro g hv hu
  rcases h.2 with ⟨rfl, _⟩ | ⟨g1, cap, cur, rfl, _, hg, _⟩
  · simp [Value.ownBlock] at hv
  · rcases hr.2 with ⟨rfl, _⟩ | ⟨g2, cap2, cur2, rfl, _, hg2, _⟩
    · simp [Value.ownBlock] at hu
    · simp [Value.ownBlock] at hv hu
      subst hv
      subst hu
      rw [hg] at hg2
      simp at hg2
theorem OwnIntss.form {W : World} {base : Nat} {v : Value} {ll : List (List Int)} (h : OwnIntss W base v ll) : IsIntss W v ll := by
  obtain ⟨vs, ho, hr⟩ := h
  rcases ho.2 with ⟨rfl, h0⟩ | ⟨g, cap, cur, rfl, hb, hg, hnc, hcm, hcs, htake⟩
  · exact ⟨none, 0, by rw [h0], rfl, fun k hk => by omega⟩
  · refine ⟨_, cap, rfl, rfl, fun k hk => ?_⟩
    obtain ⟨u, r, hu, hrr, hor⟩ := hr.get hk
    obtain ⟨ar, cr, rfl, hi⟩ := hor.form
    refine ⟨g, 0, ar, cr, r, rfl, (Array.getElem?_eq_some_iff.1 hg).1, hrr, ?_, hi⟩
    have := World.ownsRow.cellAt (w := W) (base := base) ho k (by omega)
    rw [Nat.zero_add, this, hu]
theorem OwnIntss.below {W W' : World} {base : Nat} {v : Value} {ll : List (List Int)} (h : OwnIntss W base v ll) (hb : Below W.heap.size W W') : OwnIntss W' base v ll := by
  obtain ⟨vs, ho, hr⟩ := h
  exact ⟨vs, Below.ownsRow hb ho, hr.below hb⟩
def HIntss (W : World) (lo hi : Nat) (v : Value) (ll : List (List Int)) : Prop := ∃ vs, W.ownsRow lo 35 1 v ll.length vs ∧ IRows W lo vs ll ∧ (∀ g, v.ownBlock = some g → g < hi) ∧ ∀ u ∈ vs, ∀ g, u.ownBlock = some g → g < hi
theorem HIntss.own {W : World} {lo hi : Nat} {v : Value} {ll : List (List Int)} (h : HIntss W lo hi v ll) : OwnIntss W lo v ll := by
  obtain ⟨vs, ho, hr, _, _⟩ := h
  exact ⟨vs, ho, hr⟩
theorem HIntss.is {W : World} {lo hi : Nat} {v : Value} {ll : List (List Int)} (h : HIntss W lo hi v ll) : IsIntss W v ll := h.own.form
theorem HIntss.kept {W W' : World} {lo hi : Nat} {v : Value} {ll : List (List Int)} {S : Nat → Prop} (h : HIntss W lo hi v ll) (hk : Kept S W W') (hd : ∀ k, lo ≤ k → k < hi → ¬ S k) : HIntss W' lo hi v ll := by
  obtain ⟨vs, ho, hr, h1, h2⟩ := h
  exact ⟨vs, hk.ownsRow ho fun g hg => hd g (World.ownsRow.lt ho g hg).1 (h1 g hg), hr.kept hk fun u hu g hg => hd g (hr.lt u hu g hg).1 (h2 u hu g hg), h1, h2⟩
theorem HIntss.below {W W' : World} {lo hi : Nat} {v : Value} {ll : List (List Int)} (h : HIntss W lo hi v ll) (hb : Below W.heap.size W W') : HIntss W' lo hi v ll := h.kept (Kept.of_below (S := fun _ => False) hb) fun _ _ _ => id
theorem OwnIntss.h {W : World} {lo : Nat} {v : Value} {ll : List (List Int)} (h : OwnIntss W lo v ll) : HIntss W lo W.heap.size v ll := by
  obtain ⟨vs, ho, hr⟩ := h
  exact ⟨vs, ho, hr, fun g hg => (World.ownsRow.lt ho g hg).2, fun u hu g hg => (hr.lt u hu g hg).2⟩
def RetIntss (W : World) (ll : List (List Int)) (e : Ending) (w' : World) : Prop := ∃ v, e = .returned v ∧ OwnIntss w' W.heap.size v ll ∧ Below W.heap.size W w'

def sumLen (ll : List (List Int)) : Nat := (ll.map List.length).sum
theorem sumLen_snoc (ll : List (List Int)) (r : List Int) : sumLen (ll ++ [r]) = sumLen ll + r.length := by simp [sumLen]
theorem sumLen_take_le (ll : List (List Int)) (k : Nat) : sumLen (ll.take k) ≤ sumLen ll := by
  have h : sumLen ll = sumLen (ll.take k) + sumLen (ll.drop k) := by
    unfold sumLen
    rw [← List.sum_append, ← List.map_append, List.take_append_drop]
  omega
theorem sumLen_mem {ll : List (List Int)} {k : Nat} {r : List Int} (h : ll[k]? = some r) : sumLen (ll.take k) + r.length ≤ sumLen ll := by
  have := sumLen_take_le ll (k + 1)
  rw [take_succ_of h, sumLen_snoc] at this
  exact this
def szIntss (ll : List (List Int)) : Nat := ll.length + sumLen ll
def cntIntss (ll : List (List Int)) : Nat := sumLen ll
theorem cntIntss_le (ll : List (List Int)) : cntIntss ll ≤ szIntss ll := Nat.le_add_left _ _
def mkdIntss (k : Int) (ll : List (List Int)) : List (List Int) := (List.range ll.length).map fun i => marks (ll[i]?.getD []).length (k + sumLen (ll.take i))
theorem mkdIntss_length (k : Int) (ll : List (List Int)) : (mkdIntss k ll).length = ll.length := by simp [mkdIntss]
theorem mkdIntss_get {k : Int} {ll : List (List Int)} {j : Nat} {r : List Int} (h : ll[j]? = some r) : (mkdIntss k ll)[j]? = some (marks r.length (k + sumLen (ll.take j))) := by
  have := lt_of_getElem? h
  obtain ⟨_, rfl⟩ := List.getElem?_eq_some_iff.1 h
  simp [mkdIntss, this]
def mkTo (k : Int) (ll : List (List Int)) (j : Nat) : List (List Int) := (mkdIntss k ll).take j ++ ll.drop j
theorem mkTo_zero (k : Int) (ll : List (List Int)) : mkTo k ll 0 = ll := by simp [mkTo]
theorem mkTo_all (k : Int) (ll : List (List Int)) : mkTo k ll ll.length = mkdIntss k ll := by
  simp [mkTo, List.take_of_length_le (Nat.le_of_eq (mkdIntss_length k ll))]
theorem mkTo_get {k : Int} {ll : List (List Int)} {j : Nat} {r : List Int} (h : ll[j]? = some r) : (mkTo k ll j)[j]? = some r := by
  have := lt_of_getElem? h
  unfold mkTo
  rw [List.getElem?_append_right (by simp [mkdIntss_length]; omega)]
  simp [mkdIntss_length, Nat.min_eq_left (Nat.le_of_lt this), h]
theorem mkTo_length {k : Int} {ll : List (List Int)} {j : Nat} (h : j ≤ ll.length) : (mkTo k ll j).length = ll.length := by simp [mkTo, mkdIntss_length]; omega
theorem mkTo_succ {k : Int} {ll : List (List Int)} {j : Nat} {r : List Int} (h : ll[j]? = some r) : (mkTo k ll j).set j (marks r.length (k + sumLen (ll.take j))) = mkTo k ll (j + 1) := by
  have hj := lt_of_getElem? h
  unfold mkTo
  rw [take_succ_of (mkdIntss_get h), List.set_append_right _ _ (by simp [mkdIntss_length]; omega)]
  obtain ⟨x, s, h1, h2⟩ : ∃ x s, ll.drop j = x :: s ∧ ll.drop (j + 1) = s := ⟨_, _, List.drop_eq_getElem_cons hj, rfl⟩
  rw [h1, h2]
  simp [mkdIntss_length, Nat.min_eq_left (Nat.le_of_lt hj)]

/-- the outer block is written: the rows stay -/
theorem IRows.outer {W W' : World} {base base' n : Nat} {vs xs : List Value} {v : Value} {ll : List (List Int)} (h : IRows W base vs ll) (ho : W.ownsRow base' 35 1 v n xs) (hk : Kept (fun g => some g = v.ownBlock) W W') : IRows W' base vs ll :=
  h.kept hk fun u hu g h1 h2 => by
    obtain ⟨r, hr⟩ := h.mem hu
    exact outer_apart ho hr g h2.symm h1
theorem OwnInts.outer {W W' : World} {base base' n : Nat} {xs : List Value} {v u : Value} {r : List Int} (h : OwnInts W base u r) (ho : W.ownsRow base' 35 1 v n xs) (hk : Kept (fun g => some g = v.ownBlock) W W') : OwnInts W' base u r :=
  hk.ownsRow h fun g h1 h2 => outer_apart ho h g h2.symm h1
/-- a row is written: the outer block stays -/
theorem outer_row {W W' : World} {base base' n : Nat} {xs : List Value} {v u : Value} {r : List Int} (ho : W.ownsRow base' 35 1 v n xs) (h : OwnInts W base u r) (hk : Kept (fun g => some g = u.ownBlock) W W') : W'.ownsRow base' 35 1 v n xs :=
  hk.ownsRow ho fun g h1 h2 => outer_apart ho h g h1 h2.symm
end Go.Proofs.Ytfdhbbhfilkafaa
