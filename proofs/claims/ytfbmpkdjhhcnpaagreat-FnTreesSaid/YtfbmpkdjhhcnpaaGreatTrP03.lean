/- The law's helpers on slices of slices of ints. No condition but sizes. -/
import Derived.Test.YtfbmpkdjhhcnpaaGreatTrP02
import Derived.Maps.AppendAt
namespace Go.Proofs.YtfbmpkdjhhcnpaaGreat
open Go.RowKit
set_option maxRecDepth 100000
set_option linter.unusedVariables false
set_option linter.unusedSimpArgs false

end Go.Proofs.YtfbmpkdjhhcnpaaGreat

namespace Go.Proofs.YtfbmpkdjhhcnpaaGreat
open Go.RowKit
set_option maxRecDepth 100000
set_option linter.unusedVariables false
set_option linter.unusedSimpArgs false

/-- the outer block g holds the rows vs, which read as ll -/
structure MatO (W : World) (base g n cap : Nat) (vs : List Value) (ll : List (List Int)) : Prop where
  out : W.ownsRow base 35 1 (.slice (some ⟨g, 0, none⟩) n cap) n vs
  rows : IRows W base vs ll
theorem MatO.len {W : World} {base g n cap : Nat} {vs : List Value} {ll : List (List Int)} (h : MatO W base g n cap vs ll) : vs.length = n ∧ ll.length = n := by
  have := h.out.1
  have := h.rows.len
  omega
theorem OwnIntss.mat {W : World} {base : Nat} {v : Value} {ll : List (List Int)} (h : OwnIntss W base v ll) (hne : 0 < ll.length) : ∃ g cap vs, v = .slice (some ⟨g, 0, none⟩) ll.length cap ∧ MatO W base g ll.length cap vs ll := by
  obtain ⟨vs, ho, hr⟩ := h
  rcases ho.2 with ⟨rfl, h0⟩ | ⟨g, cap, cur, rfl, hb, hg, hnc, hcm, hcs, htake⟩
  · omega
  · exact ⟨g, cap, vs, rfl, ho, hr⟩
theorem MatO.own {W : World} {base g n cap : Nat} {vs : List Value} {ll : List (List Int)} (h : MatO W base g n cap vs ll) : OwnIntss W base (.slice (some ⟨g, 0, none⟩) n cap) ll := ⟨vs, by rw [h.len.2]; exact h.out, h.rows⟩
theorem MatO.below {W W' : World} {base g n cap : Nat} {vs : List Value} {ll : List (List Int)} (h : MatO W base g n cap vs ll) (hb : Below W.heap.size W W') : MatO W' base g n cap vs ll := ⟨Below.ownsRow hb h.out, h.rows.below hb⟩
/-- a row, as the walk reads it -/
theorem MatO.row {W : World} {base g n cap : Nat} {vs : List Value} {ll : List (List Int)} (h : MatO W base g n cap vs ll) {i : Nat} {r : List Int} (hr : ll[i]? = some r) (hne : 0 < r.length) :
    ∃ b c, vs[i]? = some (.slice (some ⟨b, 0, none⟩) r.length c) ∧ W.cell? ⟨g, i, none⟩ = some (.slice (some ⟨b, 0, none⟩) r.length c) ∧ OwnInts W base (.slice (some ⟨b, 0, none⟩) r.length c) r ∧ b < W.heap.size ∧ base ≤ b := by
  have hi := lt_of_getElem? hr
  obtain ⟨u, r', hu, hr', ho⟩ := h.rows.get hi
  rw [hr] at hr'
  obtain rfl := Option.some.inj hr'
  have hc := World.ownsRow.cellAt h.out i (by have := h.len; omega)
  rw [hu] at hc
  rcases ho.2 with ⟨rfl, h0⟩ | ⟨b, c, cur, rfl, hb, hg, _⟩
  · omega
  · exact ⟨b, c, hu, hc, ho, (Array.getElem?_eq_some_iff.1 hg).1, hb⟩
theorem MatO.blk {W : World} {base g n cap : Nat} {vs : List Value} {ll : List (List Int)} (h : MatO W base g n cap vs ll) : g < W.heap.size ∧ base ≤ g := by
  have := World.ownsRow.lt h.out g rfl
  exact ⟨this.2, this.1⟩
theorem MatO.froz {W : World} {base g n cap : Nat} {vs : List Value} {ll : List (List Int)} (h : MatO W base g n cap vs ll) (i : Nat) : W.frozen? ⟨g, i, none⟩ = false := World.ownsRow.frozenAt h.out i
theorem OwnInts.cellAt {W : World} {base b c : Nat} {r : List Int} (h : OwnInts W base (.slice (some ⟨b, 0, none⟩) r.length c) r) {j : Nat} {x : Int} (hx : r[j]? = some x) : W.cell? ⟨b, j, none⟩ = some (.int .i64 x) := by
  have hj := lt_of_getElem? hx
  have := World.ownsRow.cellAt (w := W) (base := base) h j (by omega)
  rw [this]; simp [hx]
theorem OwnInts.frozAt {W : World} {base b c : Nat} {r : List Int} (h : OwnInts W base (.slice (some ⟨b, 0, none⟩) r.length c) r) (j : Nat) : W.frozen? ⟨b, j, none⟩ = false := World.ownsRow.frozenAt h j
theorem OwnInts.setAt {W : World} {base b c : Nat} {r : List Int} {j : Nat} (h : OwnInts W base (.slice (some ⟨b, 0, none⟩) r.length c) r) (x : Int) : OwnInts (W.setCell ⟨b, j, none⟩ (.int .i64 x)) base (.slice (some ⟨b, 0, none⟩) r.length c) (r.set j x) := by
  have h2 := ownInts_set (k := j) (x := x) h
  unfold OwnInts
  rw [List.length_set]
  exact h2
theorem keptSet {S : Nat → Prop} {W : World} {b j : Nat} {x : Value} (hS : S b) : Kept S W (W.setCell ⟨b, j, none⟩ x) :=
  ⟨rfl, rfl, rfl, by simp, fun k hk hs => by
    have : k ≠ b := fun e => hs (e ▸ hS)
    simp [World.setCell, Array.getElem?_modify, Ne.symm this]⟩
/-- one number of one row is written -/
theorem MatO.setIn {W : World} {base g n cap : Nat} {vs : List Value} {ll : List (List Int)} (h : MatO W base g n cap vs ll) {i b c : Nat} {r : List Int} (hv : vs[i]? = some (.slice (some ⟨b, 0, none⟩) r.length c)) (hr : ll[i]? = some r) (j : Nat) (x : Int) :
    MatO (W.setCell ⟨b, j, none⟩ (.int .i64 x)) base g n cap vs (ll.set i (r.set j x)) := by
  have ho := h.rows.own i _ _ hv hr
  have hk : Kept (fun k => some k = Value.ownBlock (.slice (some ⟨b, 0, none⟩) r.length c)) W (W.setCell ⟨b, j, none⟩ (.int .i64 x)) := keptSet rfl
  exact ⟨outer_row h.out ho hk, h.rows.wrote hv hk (ho.setAt x)⟩
/-- two rows are exchanged -/
theorem IRows.swap {W : World} {base : Nat} {vs : List Value} {ll : List (List Int)} (h : IRows W base vs ll) {r p : Nat} {u v : Value} {x y : List Int} (hu : vs[r]? = some u) (hv : vs[p]? = some v) (hx : ll[r]? = some x) (hy : ll[p]? = some y) :
    IRows W base ((vs.set r v).set p u) ((ll.set r y).set p x) := by
  have hrl := lt_of_getElem? hu
  have hpl := lt_of_getElem? hv
  have g1 : ∀ (j : Nat) w, ((vs.set r v).set p u)[j]? = some w → ∃ k, vs[k]? = some w ∧ (k = if j = p then r else if j = r then p else j) := by
    intro j w hw
    by_cases e1 : j = p
    · subst e1
      rw [List.getElem?_set_self (by simp; omega)] at hw
      exact ⟨r, by rw [hu]; exact hw, by rw [if_pos rfl]⟩
    · rw [List.getElem?_set_ne (Ne.symm e1)] at hw
      by_cases e2 : j = r
      · subst e2
        rw [List.getElem?_set_self (by omega)] at hw
        exact ⟨p, by rw [hv]; exact hw, by rw [if_neg e1, if_pos rfl]⟩
      · rw [List.getElem?_set_ne (Ne.symm e2)] at hw
        exact ⟨j, hw, by rw [if_neg e1, if_neg e2]⟩
  have hrl2 := lt_of_getElem? hx
  have hpl2 := lt_of_getElem? hy
  have g2 : ∀ (j : Nat) s, ((ll.set r y).set p x)[j]? = some s → ll[if j = p then r else if j = r then p else j]? = some s := by
    intro j s hs
    by_cases e1 : j = p
    · subst e1
      rw [List.getElem?_set_self (by simp; omega)] at hs
      rw [if_pos rfl, hx]; exact hs
    · rw [List.getElem?_set_ne (Ne.symm e1)] at hs
      by_cases e2 : j = r
      · subst e2
        rw [List.getElem?_set_self (by omega)] at hs
        rw [if_neg e1, if_pos rfl, hy]; exact hs
      · rw [List.getElem?_set_ne (Ne.symm e2)] at hs
        rw [if_neg e1, if_neg e2]; exact hs
  refine ⟨by simp [h.len], fun k w s hw hs => ?_, ?_⟩
  · obtain ⟨k', h1, h2⟩ := g1 k w hw
    have h3 := g2 k s hs
    rw [← h2] at h3
    exact h.own k' w s h1 h3
  · refine List.pairwise_iff_getElem.2 fun i j hi hj hij => ?_
    obtain ⟨k1, a1, b1⟩ := g1 i _ (List.getElem?_eq_getElem hi)
    obtain ⟨k2, a2, b2⟩ := g1 j _ (List.getElem?_eq_getElem hj)
    refine h.ne a1 a2 fun e => ?_
    have hne : (if i = p then r else if i = r then p else i) ≠ (if j = p then r else if j = r then p else j) := by
      split <;> split <;> (try split) <;> (try split) <;> omega
    exact hne (by rw [← b1, ← b2, e])
theorem ownsRow_set {W : World} {base g n cap k : Nat} {vs : List Value} (h : W.ownsRow base 35 1 (.slice (some ⟨g, 0, none⟩) n cap) n vs) (u : Value) :
    (W.setCell ⟨g, k, none⟩ u).ownsRow base 35 1 (.slice (some ⟨g, 0, none⟩) n cap) n (vs.set k u) := (World.ownsRow.stored h k u).1
theorem MatO.swap {W : World} {base g n cap : Nat} {vs : List Value} {ll : List (List Int)} (h : MatO W base g n cap vs ll) {r p : Nat} {u v : Value} {x y : List Int} (hu : vs[r]? = some u) (hv : vs[p]? = some v) (hx : ll[r]? = some x) (hy : ll[p]? = some y) :
    MatO ((W.setCell ⟨g, r, none⟩ v).setCell ⟨g, p, none⟩ u) base g n cap ((vs.set r v).set p u) ((ll.set r y).set p x) := by
  refine ⟨ownsRow_set (ownsRow_set h.out v) u, ?_⟩
  have hk : Kept (fun k => some k = Value.ownBlock (.slice (some ⟨g, 0, none⟩) n cap)) W ((W.setCell ⟨g, r, none⟩ v).setCell ⟨g, p, none⟩ u) := Kept.trans (keptSet rfl) (keptSet rfl)
  exact (h.rows.swap hu hv hx hy).kept hk fun q hq b h1 h2 => by
    obtain ⟨s, hs⟩ := (h.rows.swap hu hv hx hy).mem hq
    exact outer_apart h.out hs b h2.symm h1
/-- a row's place takes another row, which is apart from the others -/
theorem IRows.put {W W' : World} {base : Nat} {vs : List Value} {ll : List (List Int)} (h : IRows W base vs ll) {k : Nat} {v u : Value} {r : List Int} (hv : vs[k]? = some v) (hk : Kept (fun b => some b = v.ownBlock) W W') (ho : OwnInts W' base u r)
    (hap : ∀ j q, vs[j]? = some q → j ≠ k → Apart q u) : IRows W' base (vs.set k u) (ll.set k r) := by
  have hkl := lt_of_getElem? hv
  refine ⟨by simp [h.len], fun j w s hw hs => ?_, ?_⟩
  · by_cases e : k = j
    · subst e
      rw [List.getElem?_set_self hkl] at hw
      rw [List.getElem?_set_self (by rw [← h.len]; exact hkl)] at hs
      obtain rfl := Option.some.inj hw
      obtain rfl := Option.some.inj hs
      exact ho
    · rw [List.getElem?_set_ne e] at hw hs
      exact hk.ownsRow (h.own j w s hw hs) fun b h1 h2 => (h.ne hw hv (fun e2 => e e2.symm)) b h1 h2.symm
  · refine List.pairwise_iff_getElem.2 fun i j hi hj hij => ?_
    have hi' : i < vs.length := by simpa using hi
    have hj' : j < vs.length := by simpa using hj
    rw [List.getElem_set, List.getElem_set]
    by_cases e1 : k = i
    · rw [if_pos e1, if_neg (by omega)]
      exact (hap j _ (List.getElem?_eq_getElem hj') (by omega)).symm
    · rw [if_neg e1]
      by_cases e2 : k = j
      · rw [if_pos e2]
        exact hap i _ (List.getElem?_eq_getElem hi') (by omega)
      · rw [if_neg e2]
        exact h.ne (List.getElem?_eq_getElem hi') (List.getElem?_eq_getElem hj') (by omega)
/-- .. and is stored -/
theorem MatO.put {W W' : World} {base g n cap : Nat} {vs : List Value} {ll : List (List Int)} (h : MatO W base g n cap vs ll) {k : Nat} {v u : Value} {r s : List Int} (hv : vs[k]? = some v) (hs : ll[k]? = some s) (hk : Kept (fun b => some b = v.ownBlock) W W') (ho : OwnInts W' base u r)
    (hfresh : u.ownBlock = v.ownBlock ∨ ∀ b, u.ownBlock = some b → W.heap.size ≤ b) : MatO (W'.setCell ⟨g, k, none⟩ u) base g n cap (vs.set k u) (ll.set k r) := by
  have hout := outer_row h.out (h.rows.own k _ _ hv hs) hk
  refine ⟨ownsRow_set hout u, ?_⟩
  have hr : IRows W' base (vs.set k u) (ll.set k r) := h.rows.put hv hk ho fun j q hq hj b h1 h2 => by
    rcases hfresh with hf | hf
    · rw [hf] at h2
      exact h.rows.ne hq hv hj b h1 h2
    · have := hf b h2
      have := (h.rows.lt q (List.mem_of_getElem? hq) b h1).2
      omega
  exact hr.kept (S := fun b => some b = Value.ownBlock (.slice (some ⟨g, 0, none⟩) n cap)) (keptSet rfl) fun q hq b h1 h2 => by
    obtain ⟨t, ht⟩ := hr.mem hq
    exact outer_apart hout ht b h2.symm h1

/-- 'append(s, u)' of one row, s the call's own -/
theorem appRow {w : World} {ops : Array Oper} {rest : List Oper} {o : Oper} {a : Act} {Q : Exit → Act → World → Prop} (hg : o.guard = none) (s x : Operand)
    (ho : o.op = .call { callee := .builtin .append, args := #[s, x], argTypes := #[29, 29] }) {base : Nat} {v : Value} {ll : List (List Int)} (hs : a.eval s = v) {u : Value} {r : List Int} (hu : OwnInts w base u r)
    {W0 : World} {vs : List Value} (hW0 : Below W0.heap.size W0 w) (hv : W0.ownsRow base 35 1 v ll.length vs) (hr : IRows W0 base vs ll) (hap : ∀ b, u.ownBlock = some b → W0.heap.size ≤ b)
    (hx : a.eval x = .slice (some ⟨w.heap.size, 0, none⟩) 1 1) (hl : ll.length < 1099511627776) (hbase : base ≤ w.heap.size)
    (hK : ∀ v' w', OwnIntss w' base v' (ll ++ [r]) → Kept (fun k => some k = v.ownBlock) w w' → wpList Tryz.prog ops Q rest (a.put o.dst v') w') :
    wpList Tryz.prog ops Q (o :: rest) a (w.alloc (.cells #[u] 35)) := by
  have hv1 : w.ownsRow base 35 1 v ll.length vs := Below.ownsRow hW0 hv
  have hr1 : IRows w base vs ll := hr.below hW0
  obtain ⟨i0, hi, hz0, hz1, hz2⟩ := info_parts infoInts
  refine wpList_append_own _ hg s x 29 ho base 35 i0 (.slice none 0 0) 1 24 Tryz.underlying29 hi hz0 hz1 hz2 rfl (by decide) v ll.length vs hs (World.ownsRow.alloc hv1 _) ⟨w.heap.size, 0, none⟩ 1 1 [u] hx rfl (cell_one_new _ _ _) ?_ ?_ ?_ ?_ ?_
  · intro q hq
    simp at hq
    subst hq
    rcases hu.2 with ⟨rfl, _⟩ | ⟨g, c, cur, rfl, _⟩ <;> rfl
  · unfold maxLen; omega
  · omega
  · simp; omega
  · intro v' w' h1 h2 _
    have hk : Kept (fun k => some k = v.ownBlock) w w' := (Kept.of_below ((Below.refl _ _).alloc (Nat.le_refl _) _)).trans ⟨h2.os, h2.tape, h2.output, h2.size, fun k hk hs => h2.block k hk hs⟩
    refine hK v' w' ⟨vs ++ [u], by rw [List.length_append]; exact h1, ?_⟩ hk
    refine (hr1.outer hv1 hk).snoc (hu.outer hv1 hk) fun q hq b h3 h4 => ?_
    have h5 := hap b h4
    have h6 := (hr.lt q hq b h3).2
    omega
end Go.Proofs.YtfbmpkdjhhcnpaaGreat

