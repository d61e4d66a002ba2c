/- The plain law of CanBear, and the append of whole ints as one step of a region that draws its order. No condition but sizes. -/
import Derived.Test.YtchlmnlaaloipaaAugFit
import Derived.Test.YtchlmnlaaloipaaLoad
import Derived.Deep.RegionHeld3
import Derived.Deep.RegionLaw
namespace Go.Proofs.Ytchlmnlaaloipaa
open Go.RowKit Gr
set_option maxRecDepth 100000
set_option linter.unusedVariables false
set_option linter.unusedSimpArgs false

/-- N rows: those before c with the load's number behind, the others the columns of M -/
def stB (M : List (List Int)) (v : List Int) (N c : Nat) : List (List Int) := (List.range N).map fun j => if j < c then rowL (M.length + 1) (augF M v j) else colL M M.length j
theorem stB_length (M : List (List Int)) (v : List Int) (N c : Nat) : (stB M v N c).length = N := by simp [stB]
theorem stB_zero (M : List (List Int)) (v : List Int) (N : Nat) : stB M v N 0 = turnL M N := by simp [stB, turnL]
theorem stB_get {M : List (List Int)} {v : List Int} {N c : Nat} (h : c < N) : (stB M v N c)[c]? = some (colL M M.length c) := by simp [stB, h]
theorem stB_done (M : List (List Int)) (v : List Int) (N : Nat) : stB M v N N = augL M N v := by
  refine List.ext_getElem (by simp [stB, augL]) fun j h1 h2 => ?_
  have : j < N := by simpa [stB] using h1
  simp only [stB, augL, List.getElem_map, List.getElem_range, if_pos this]
theorem aug_row (M : List (List Int)) {v : List Int} {c : Nat} {x : Int} (hx : v[c]? = some x) : rowL (M.length + 1) (augF M v c) = colL M M.length c ++ [x] := by
  unfold colL rowL
  rw [List.range_succ, List.map_append]
  congr 1
  · refine List.map_congr_left fun i hi => ?_
    have : i < M.length := List.mem_range.1 hi
    unfold augF; rw [if_pos this]
  · simp [augF, hx]
theorem stB_set {M : List (List Int)} {v : List Int} {N c : Nat} {x : Int} (hx : v[c]? = some x) : (stB M v N c).set c (colL M M.length c ++ [x]) = stB M v N (c + 1) := by
  refine List.ext_getElem (by simp [stB]) fun j h1 h2 => ?_
  simp only [stB, List.getElem_set, List.getElem_map, List.getElem_range]
  by_cases e : c = j
  · subst e; simp [aug_row M hx]
  · rw [if_neg e]
    by_cases e1 : j < c
    · rw [if_pos e1, if_pos (by omega)]
    · rw [if_neg e1, if_neg (by omega)]
theorem stB_app {M : List (List Int)} (h : M.length = 0) (v : List Int) (k : Nat) : stB M v k k ++ [[]] = stB M v (k + 1) k := by
  unfold stB
  rw [List.range_succ, List.map_append]
  congr 1
  simp [colL, rowL, h]
def bearL (f : FwT) (v : List Int) : List (List Int) := nullL (augL (rigM f) (2 * f.1.toNat) v) (f.2.1.length + 1)
def bearB (f : FwT) (v : List Int) : Bool := loadB f v && (bearL f v).any fun r => !(r[f.2.1.length]?.getD 0 == 0)
theorem bearL_row {f : FwT} {v : List Int} {r : List Int} (h : r ∈ bearL f v) : r.length = f.2.1.length + 1 := by
  obtain ⟨k, _, rfl⟩ := List.mem_map.1 h
  rw [rowL_length]
theorem bearL_len (f : FwT) (v : List Int) : (bearL f v).length ≤ f.2.1.length + 1 := nullL_len _ _
theorem bear_at {f : FwT} {v r : List Int} {k : Nat} {d : Int} (hb : loadB f v = true) (hr : (bearL f v)[k]? = some r) (hd : r[f.2.1.length]? = some d) (h0 : (d == 0) = false) : bearB f v = true := by
  unfold bearB
  rw [hb, Bool.true_and, List.any_eq_true]
  exact ⟨r, List.mem_of_getElem? hr, by simp [hd, h0]⟩
theorem bear_none {f : FwT} {v : List Int} (h : ∀ x ∈ bearL f v, x[f.2.1.length]?.getD 0 = 0) : bearB f v = false := by
  unfold bearB
  have : ((bearL f v).any fun r => !(r[f.2.1.length]?.getD 0 == 0)) = false := by
    rw [List.any_eq_false]
    intro x hx
    simp [h x hx]
  rw [this, Bool.and_false]
theorem bear_no {f : FwT} {v : List Int} (h : loadB f v = false) : bearB f v = false := by unfold bearB; rw [h, Bool.false_and]
def RetBear (W : World) (ok : Bool) (e : Ending) (w' : World) : Prop := ∃ vo d, e = .returned (.tuple #[vo, .int .i64 d, .bool ok]) ∧ Below W.heap.size W w'

theorem OwnIntss.rowIn {W : World} {base : Nat} {v : Value} {ll : List (List Int)} (h : OwnIntss W base v ll) {k : Nat} (hk : k < ll.length) (hne : ∀ r ∈ ll, 0 < r.length) :
    ∃ g cap b cr r, v = .slice (some ⟨g, 0, none⟩) ll.length cap ∧ g < W.heap.size ∧ W.cell? ⟨g, k, none⟩ = some (.slice (some ⟨b, 0, none⟩) r.length cr) ∧ ll[k]? = some r ∧ IntsAt W (some ⟨b, 0, none⟩) r.length r ∧ r.length ≤ cr := by
  obtain ⟨vs, ho, hr⟩ := h
  have ho2 := ho
  rcases ho.2 with ⟨rfl, h0⟩ | ⟨g, cap, cur, rfl, hb, hg, hnc, hcm, hcs, htake⟩
  · omega
  · obtain ⟨u, r, hu, hrr, hor⟩ := hr.get hk
    have hc := World.ownsRow.cellAt (w := W) (base := base) ho2 k (by omega)
    have hrl := hne r (List.mem_of_getElem? hrr)
    obtain ⟨a1, c1, he1, hi1⟩ := hor.form
    rcases hor.2 with ⟨e1, h1⟩ | ⟨b, cr, cur', e1, _, _, hc1, _⟩
    · omega
    · rw [e1] at he1
      simp only [Value.slice.injEq, true_and] at he1
      obtain ⟨rfl, rfl⟩ := he1
      exact ⟨g, cap, b, cr, r, rfl, (World.ownsRow.lt ho2 g rfl).2, by rw [← e1, ← hu, ← hc], hrr, hi1, hc1⟩
theorem IntsAt.takeN {W : World} {a : Option Addr} {n m : Nat} {r : List Int} (h : IntsAt W a n r) (hm : m ≤ n) : IntsAt W a m (r.take m) :=
  ⟨by rw [List.length_take, h.1]; omega, fun k hk => by
    obtain ⟨b, off, x, ha, hb, hx, hc⟩ := h.2 k (by omega)
    exact ⟨b, off, x, ha, hb, by rw [List.getElem?_take_of_lt hk]; exact hx, hc⟩⟩
theorem OwnInts.blk {W : World} {base : Nat} {a : Option Addr} {n c : Nat} {r : List Int} (h : OwnInts W base (.slice a n c) r) (hn : 0 < r.length) : ∃ g, a = some ⟨g, 0, none⟩ ∧ n = r.length := by
  rcases h.2 with ⟨e1, h1⟩ | ⟨g, cap, cur, e1, _⟩
  · omega
  · simp only [Value.slice.injEq] at e1
    exact ⟨g, e1.1, e1.2.1⟩
theorem ints_src {W : World} {ao : Option Addr} {n : Nat} {l : List Int} (h : IntsAt W ao n l) : ∀ j u, (l.map (Value.int .i64))[j]? = some u → ∃ b off, ao = some ⟨b, off, none⟩ ∧ W.cell? ⟨b, off + j, none⟩ = some u := by
  intro j u hu
  rw [List.getElem?_map] at hu
  obtain ⟨x, hx, rfl⟩ := Option.map_eq_some_iff.1 hu
  have hj := lt_of_getElem? hx
  obtain ⟨b, off, x', hao, _, hx', hc⟩ := h.2 j (by have := h.1; omega)
  rw [hx] at hx'
  obtain rfl := Option.some.inj hx'
  exact ⟨b, off, hao, hc⟩
/-- append of a whole slice of ints, as one step of a region that draws its order -/
theorem stepIntsAll {w : World} {ops : Array Oper} {o : Oper} {a : Act} {K : Act → World → Prop} {Q : Exit → Act → World → Prop} {E : Prop} (hg : o.guard = none) (s x : Operand)
    (ho : o.op = .call { callee := .builtin .append, args := #[s, x], argTypes := #[28, 28] }) {base : Nat} {v : Value} {l : List Int} (hs : a.eval s = v) (hown : OwnInts w base v l)
    {am : Option Addr} {m c : Nat} {r : List Int} (hx : a.eval x = .slice am m c) (hi : IntsAt w am m r) (hl : l.length + m < 1099511627776) (hbase : base ≤ w.heap.size)
    (hK : ∀ v' w', OwnInts w' base v' (l ++ r) → Kept (fun k => some k = v.ownBlock) w w' → (v'.ownBlock = v.ownBlock ∨ v'.ownBlock = some w.heap.size) → K (a.put o.dst v') w') :
    if Region.wanted o (yielded ops a.tmps) = true then Oper.wp Try.prog o a w K Q else E := by
  obtain ⟨i0, hii, hz0, hz1, hz2⟩ := info_parts infoInt
  have hrm := hi.1
  refine step_append_whole _ hg s x 28 ho base 3 i0 _ 1 8 Try.underlying28 hii hz0 hz1 hz2 rfl (by decide) v l.length (l.map (Value.int .i64)) hs hown am m c (r.map (Value.int .i64)) hx (by simp; omega) (ints_src hi) (by intro u hu; obtain ⟨x, _, rfl⟩ := List.mem_map.1 hu; rfl) (by unfold maxLen; omega) (by omega) hbase ?_
  intro v' w' h1 h2 h3
  refine hK v' w' ?_ (Kept.of_grown h2) h3
  unfold OwnInts
  rw [List.length_append, List.map_append, hrm]
  exact h1
end Go.Proofs.Ytchlmnlaaloipaa
