/- Packing trees: the plain law of the search. -/
import Derived.Test.YtfbmpkdjhhcnpaaGreatTrP25
import Derived.Test.YtfbmpkdjhhcnpaaGreatTrP30
import Derived.Test.YtfbmpkdjhhcnpaaGreatTrP03
import Derived.Test.YtfbmpkdjhhcnpaaGreatTrP07
namespace Go.Proofs.YtfbmpkdjhhcnpaaGreat
open Go.RowKit
set_option maxRecDepth 100000
set_option linter.unusedVariables false
set_option linter.unusedSimpArgs false
abbrev SetsT := List (List Int)
def setA (S : SetsT) (i : Nat) : List Int := S[i]?.getD []
theorem setA_get {S : SetsT} {i : Nat} (h : i < S.length) : S[i]? = some (setA S i) := by unfold setA; rw [List.getElem?_eq_getElem h]; rfl
theorem setA_set {S : SetsT} {i j : Nat} {x : List Int} (h : i < S.length) : setA (S.set i x) j = if j = i then x else setA S j := by
  unfold setA
  by_cases e : j = i
  · subst e
    rw [List.getElem?_set_self h, if_pos rfl]; rfl
  · rw [List.getElem?_set_ne (fun e2 => e e2.symm), if_neg e]
/-- all ways to give the bars from e on to k sets -/
def fillS (F : List Int → Bool) (k : Nat) : Nat → Nat → SetsT → Option SetsT
  | 0, _, S => some S
  | d + 1, e, S => firstS (fun i => if F (setA S i ++ [(e : Int)]) = true then fillS F k d (e + 1) (S.set i (setA S i ++ [(e : Int)])) else none) k
def tryS (F : List Int → Bool) (k d e : Nat) (S : SetsT) (i : Nat) : Option SetsT := if F (setA S i ++ [(e : Int)]) = true then fillS F k d (e + 1) (S.set i (setA S i ++ [(e : Int)])) else none
theorem fillS_succ (F : List Int → Bool) (k d e : Nat) (S : SetsT) : fillS F k (d + 1) e S = firstS (tryS F k d e S) k := rfl
theorem fill_perm (F : List Int → Bool) (k : Nat) (π : Nat → Nat) (hπ : ∀ t, π (π t) = t) (hk : ∀ t, t < k → π t < k) : ∀ (d e : Nat) (S S' : SetsT), S.length = k → S'.length = k → (∀ t, t < k → setA S' t = setA S (π t)) → fillS F k d e S = none → fillS F k d e S' = none
  | 0, e, S, S', _, _, _, h => by simp [fillS] at h
  | d + 1, e, S, S', h1, h2, hr, h => by
    rw [fillS_succ] at h ⊢
    refine firstS_none k fun t ht => ?_
    have h3 := firstS_all k h (π t) (hk t ht)
    unfold tryS at h3 ⊢
    rw [hr t ht]
    split
    · rename_i hF
      rw [if_pos hF] at h3
      refine fill_perm F k π hπ hk d (e + 1) _ _ (by simp [h1]) (by simp [h2]) (fun s hs => ?_) h3
      rw [setA_set (by rw [h2]; exact ht), setA_set (by rw [h1]; exact hk t ht)]
      by_cases e1 : s = t
      · subst e1; rw [if_pos rfl, if_pos rfl]
      · rw [if_neg e1, if_neg fun e2 => e1 (by rw [← hπ s, e2, hπ]), hr s hs]
    · rfl
def swp (i j t : Nat) : Nat := if t = i then j else if t = j then i else t
theorem fill_stop {F : List Int → Bool} {k d e i : Nat} {S : SetsT} (hl : S.length = k) (hi : i < k) (h0 : ∀ j, j < i → tryS F k d e S j = none) (h1 : tryS F k d e S i = none) (he : ∀ j, i ≤ j → j < k → setA S j = []) : fillS F k (d + 1) e S = none := by
  rw [fillS_succ]
  refine firstS_none k fun j hj => ?_
  by_cases c1 : j < i
  · exact h0 j c1
  · by_cases c2 : j = i
    · subst c2; exact h1
    · unfold tryS at h1 ⊢
      rw [he i (Nat.le_refl _) hi] at h1
      rw [he j (by omega) hj]
      split
      · rename_i hF
        rw [if_pos hF] at h1
        refine fill_perm F k (swp i j) (fun t => ?_) (fun t ht => ?_) d (e + 1) _ _ (by simp [hl]) (by simp [hl]) (fun s hs => ?_) h1
        · unfold swp; split <;> (try split) <;> (try split) <;> (try split) <;> omega
        · unfold swp; split <;> (try split) <;> omega
        · rw [setA_set (by rw [hl]; exact hj), setA_set (by rw [hl]; exact hi)]
          by_cases e1 : s = j
          · subst e1
            rw [if_pos rfl, if_pos (by unfold swp; split <;> (try split) <;> omega)]
          · rw [if_neg e1]
            by_cases e2 : s = i
            · subst e2
              have e3 : swp s j s = j := by unfold swp; rw [if_pos rfl]
              rw [e3, if_neg (by omega), he s (Nat.le_refl _) hi, he j (by omega) hj]
            · have e3 : swp i j s = s := by unfold swp; rw [if_neg e2, if_neg e1]
              rw [e3, if_neg e2]
      · rfl
/-- sets of bars below e, the empty ones last -/
structure SetsOk (k e : Nat) (S : SetsT) : Prop where
  len : S.length = k
  asc : ∀ t, (setA S t).Pairwise (· < ·)
  rng : ∀ t, ∀ x ∈ setA S t, 0 ≤ x ∧ x < (e : Int)
theorem SetsOk.add {k e i : Nat} {S : SetsT} (h : SetsOk k e S) (hi : i < k) : SetsOk k (e + 1) (S.set i (setA S i ++ [(e : Int)])) where
  len := by simp [h.len]
  asc := fun t => by
    rw [setA_set (by rw [h.len]; exact hi)]
    split
    · refine List.pairwise_append.2 ⟨h.asc i, List.pairwise_singleton _ _, fun x hx y hy => ?_⟩
      obtain rfl := List.mem_singleton.1 hy
      exact (h.rng i x hx).2
    · exact h.asc t
  rng := fun t x hx => by
    rw [setA_set (by rw [h.len]; exact hi)] at hx
    split at hx
    · rcases List.mem_append.1 hx with h1 | h1
      · have := h.rng i x h1; omega
      · obtain rfl := List.mem_singleton.1 h1; omega
    · have := h.rng t x hx; omega
theorem SetsOk.none (k : Nat) : SetsOk k 0 (List.replicate k []) where
  len := by simp
  asc := fun t => by
    have : setA (List.replicate k []) t = [] := by unfold setA; rw [List.getElem?_replicate]; split <;> rfl
    rw [this]; exact List.Pairwise.nil
  rng := fun t x hx => by
    have : setA (List.replicate k []) t = [] := by unfold setA; rw [List.getElem?_replicate]; split <;> rfl
    rw [this] at hx; exact absurd hx (by simp)
theorem pw_len {s : List Int} {e : Nat} (h : s.Pairwise (· < ·)) (hr : ∀ x ∈ s, 0 ≤ x ∧ x < (e : Int)) : s.length ≤ e := by
  have key : ∀ i, (hi : i < s.length) → (i : Int) ≤ s[i] := by
    intro i
    induction i with
    | zero => intro hi; exact (hr _ (List.getElem_mem hi)).1
    | succ i ih =>
      intro hi
      have h1 := ih (by omega)
      have h2 := List.pairwise_iff_getElem.1 h i (i + 1) (by omega) hi (by omega)
      omega
  rcases Nat.eq_zero_or_pos s.length with h0 | h0
  · omega
  · have h1 := key (s.length - 1) (by omega)
    have h2 := (hr _ (List.getElem_mem (show s.length - 1 < s.length by omega))).2
    omega
theorem SetsOk.lenA {k e : Nat} {S : SetsT} (h : SetsOk k e S) (t : Nat) : (setA S t).length ≤ e := pw_len (h.asc t) (h.rng t)
theorem setB_mk {g : GraphT} {s : List Int} (hg : isGraphB g = true) (h : s.Pairwise (· < ·)) (hr : ∀ x ∈ s, 0 ≤ x ∧ x < (g.2.length : Int)) : setB g s = true := by
  unfold setB
  rw [hg, Bool.and_true, List.all_eq_true]
  intro i hi
  have hi := List.mem_range.1 hi
  have hx := hr _ (List.getElem_mem hi)
  unfold setAt inB
  rw [List.getElem?_eq_getElem hi]
  simp only [Option.getD_some, Bool.and_eq_true, decide_eq_true_eq, Bool.or_eq_true, beq_iff_eq]
  refine ⟨⟨hx.1, by omega⟩, ?_⟩
  rcases Nat.eq_zero_or_pos i with h0 | h0
  · exact .inl h0
  · right
    rw [List.getElem?_eq_getElem (show i - 1 < s.length by omega)]
    simpa using List.pairwise_iff_getElem.1 h (i - 1) i (by omega) hi (by omega)
/-- the test on a set -/
def forF (l : List BarT) (s : List Int) : Bool := Fo.forestB (setE l s)
theorem frst_for {P : Nat} {l : List BarT} {k e i : Nat} {S : SetsT} (hg : isGraphB ((P : Int), l) = true) (h : SetsOk k e S) (hi : i < k) (he : e < l.length) : frstB ((P : Int), l) (setA S i ++ [(e : Int)]) = forF l (setA S i ++ [(e : Int)]) := by
  have h1 := h.add hi
  have h2 := h1.asc i
  have h3 := h1.rng i
  rw [setA_set (by rw [h.len]; exact hi), if_pos rfl] at h2 h3
  unfold frstB forF
  rw [setB_mk hg h2 fun x hx => ⟨(h3 x hx).1, by have := (h3 x hx).2; show x < (l.length : Int); omega⟩, Bool.true_and]
/-- what PackTrees returns -/
def packO (g : GraphT) (k : Int) : Option SetsT := if (inB k 1 3 && (tightB g k k && decide (g.1 ≤ 5))) = true then fillS (forF g.2) k.toNat g.2.length 0 (List.replicate k.toNat []) else none
def packL (g : GraphT) (k : Int) : SetsT := (packO g k).getD []
def packOk (g : GraphT) (k : Int) : Bool := (packO g k).isSome
end Go.Proofs.YtfbmpkdjhhcnpaaGreat

namespace Go.Proofs.YtfbmpkdjhhcnpaaGreat
open Go.RowKit
set_option maxRecDepth 100000
set_option linter.unusedVariables false
set_option linter.unusedSimpArgs false
structure BRows (W : World) (base : Nat) (vs : List Value) (ll : List (List BarT)) : Prop where
  len : vs.length = ll.length
  own : ∀ (k : Nat) v r, vs[k]? = some v → ll[k]? = some r → OwnBars W base v r
  apart : vs.Pairwise Apart

theorem BRows.get {W : World} {base : Nat} {vs : List Value} {ll : List (List BarT)} (h : BRows W base vs ll) {k : Nat} (hk : k < ll.length) : ∃ v r, vs[k]? = some v ∧ ll[k]? = some r ∧ OwnBars W base v r := by
  have hk' : k < vs.length := by rw [h.len]; exact hk
  exact ⟨vs[k], ll[k], List.getElem?_eq_getElem hk', List.getElem?_eq_getElem hk, h.own k _ _ (List.getElem?_eq_getElem hk') (List.getElem?_eq_getElem hk)⟩
theorem BRows.ne {W : World} {base : Nat} {vs : List Value} {ll : List (List BarT)} (h : BRows W base vs ll) {j k : Nat} {u v : Value} (hj : vs[j]? = some u) (hk : vs[k]? = some v) (hne : j ≠ k) : Apart u v := by
  obtain ⟨hjl, rfl⟩ := List.getElem?_eq_some_iff.1 hj
  obtain ⟨hkl, rfl⟩ := List.getElem?_eq_some_iff.1 hk
  have h2 := List.pairwise_iff_getElem.1 h.apart
  rcases Nat.lt_or_gt_of_ne hne with h1 | h1
  · exact h2 j k hjl hkl h1
  · exact (h2 k j hkl hjl h1).symm
theorem BRows.kept {S : Nat → Prop} {W W' : World} {base : Nat} {vs : List Value} {ll : List (List BarT)} (h : BRows W base vs ll) (hk : Kept S W W') (hd : ∀ u ∈ vs, ∀ g, u.ownBlock = some g → ¬ S g) : BRows W' base vs ll :=
  ⟨h.len, fun k v r hv hr => hk.ownsRow (h.own k v r hv hr) (hd v (List.mem_of_getElem? hv)), h.apart⟩
theorem BRows.below {W W' : World} {base : Nat} {vs : List Value} {ll : List (List BarT)} (h : BRows W base vs ll) (hb : Below W.heap.size W W') : BRows W' base vs ll := h.kept (Kept.of_below (S := fun _ => False) hb) fun _ _ _ _ => id
theorem BRows.lt {W : World} {base : Nat} {vs : List Value} {ll : List (List BarT)} (h : BRows W base vs ll) : ∀ u ∈ vs, ∀ g, u.ownBlock = some g → base ≤ g ∧ g < W.heap.size := by
  intro u hu g hg
  obtain ⟨k, hk⟩ := List.getElem?_of_mem hu
  have hkl := lt_of_getElem? hk
  obtain ⟨v, r, h1, h2, h3⟩ := h.get (k := k) (by rw [← h.len]; exact hkl)
  rw [hk] at h1
  obtain rfl := Option.some.inj h1
  exact World.ownsRow.lt h3 g hg
theorem BRows.mem {W : World} {base : Nat} {vs : List Value} {ll : List (List BarT)} (h : BRows W base vs ll) {u : Value} (hu : u ∈ vs) : ∃ r, OwnBars W base u r := by
  obtain ⟨k, hk⟩ := List.getElem?_of_mem hu
  have hkl := lt_of_getElem? hk
  obtain ⟨v, r, h1, h2, h3⟩ := h.get (k := k) (by rw [← h.len]; exact hkl)
  rw [hk] at h1
  obtain rfl := Option.some.inj h1
  exact ⟨r, h3⟩
structure MatB (W : World) (base g n cap : Nat) (vs : List Value) (ll : List (List BarT)) : Prop where
  out : W.ownsRow base 24 1 (.slice (some ⟨g, 0, none⟩) n cap) n vs
  rows : BRows W base vs ll
theorem MatB.len {W : World} {base g n cap : Nat} {vs : List Value} {ll : List (List BarT)} (h : MatB W base g n cap vs ll) : vs.length = n ∧ ll.length = n := by
  have := h.out.1
  have := h.rows.len
  omega
theorem MatB.below {W W' : World} {base g n cap : Nat} {vs : List Value} {ll : List (List BarT)} (h : MatB W base g n cap vs ll) (hb : Below W.heap.size W W') : MatB W' base g n cap vs ll := ⟨Below.ownsRow hb h.out, h.rows.below hb⟩
theorem MatB.blk {W : World} {base g n cap : Nat} {vs : List Value} {ll : List (List BarT)} (h : MatB W base g n cap vs ll) : g < W.heap.size ∧ base ≤ g := by
  have := World.ownsRow.lt h.out g rfl
  exact ⟨this.2, this.1⟩
theorem MatB.froz {W : World} {base g n cap : Nat} {vs : List Value} {ll : List (List BarT)} (h : MatB W base g n cap vs ll) (i : Nat) : W.frozen? ⟨g, i, none⟩ = false := World.ownsRow.frozenAt h.out i
theorem ownsRow_setB {W : World} {base g n cap k : Nat} {vs : List Value} (h : W.ownsRow base 24 1 (.slice (some ⟨g, 0, none⟩) n cap) n vs) (u : Value) :
    (W.setCell ⟨g, k, none⟩ u).ownsRow base 24 1 (.slice (some ⟨g, 0, none⟩) n cap) n (vs.set k u) := (World.ownsRow.stored h k u).1
theorem BRows.put {W W' : World} {base : Nat} {vs : List Value} {ll : List (List BarT)} (h : BRows W base vs ll) {k : Nat} {v u : Value} {r : List BarT} (hv : vs[k]? = some v) (hk : Kept (fun b => some b = v.ownBlock) W W') (ho : OwnBars W' base u r)
    (hap : ∀ j q, vs[j]? = some q → j ≠ k → Apart q u) : BRows W' base (vs.set k u) (ll.set k r) := by
  have hkl := lt_of_getElem? hv
  refine ⟨by simp [h.len], fun j w s hw hs => ?_, ?_⟩
  · by_cases e : k = j
    · subst e
      rw [List.getElem?_set_self hkl] at hw
      rw [List.getElem?_set_self (by rw [← h.len]; exact hkl)] at hs
      obtain rfl := Option.some.inj hw
      obtain rfl := Option.some.inj hs
      exact ho
    · rw [List.getElem?_set_ne e] at hw hs
      exact hk.ownsRow (h.own j w s hw hs) fun b h1 h2 => (h.ne hw hv (fun e2 => e e2.symm)) b h1 h2.symm
  · refine List.pairwise_iff_getElem.2 fun i j hi hj hij => ?_
    have hi' : i < vs.length := by simpa using hi
    have hj' : j < vs.length := by simpa using hj
    rw [List.getElem_set, List.getElem_set]
    by_cases e1 : k = i
    · rw [if_pos e1, if_neg (by omega)]
      exact (hap j _ (List.getElem?_eq_getElem hj') (by omega)).symm
    · rw [if_neg e1]
      by_cases e2 : k = j
      · rw [if_pos e2]
        exact hap i _ (List.getElem?_eq_getElem hi') (by omega)
      · rw [if_neg e2]
        exact h.ne (List.getElem?_eq_getElem hi') (List.getElem?_eq_getElem hj') (by omega)

/-- blocks that hold values of different types are apart -/
theorem types_apart {W : World} {b b' : Nat} {e e' : TypeId} {s s' n n' : Nat} {v v' : Value} {xs xs' : List Value} (hne : e ≠ e') (h : W.ownsRow b e s v n xs) (hr : W.ownsRow b' e' s' v' n' xs') : Apart v v' := by
  intro g hv hu
  rcases h.2 with ⟨rfl, _⟩ | ⟨g1, cap, cur, rfl, _, hg, _⟩
  · simp [Value.ownBlock] at hv
  · rcases hr.2 with ⟨rfl, _⟩ | ⟨g2, cap2, cur2, rfl, _, hg2, _⟩
    · simp [Value.ownBlock] at hu
    · simp [Value.ownBlock] at hv hu
      subst hv
      subst hu
      rw [hg] at hg2
      simp at hg2
      exact hne hg2.2
theorem kept_apart {W W' : World} {b b' : Nat} {e e' : TypeId} {s s' n n' : Nat} {v v' : Value} {xs xs' : List Value} (hne : e ≠ e') (h : W.ownsRow b e s v n xs) (hr : W.ownsRow b' e' s' v' n' xs') (hk : Kept (fun g => some g = v'.ownBlock) W W') : W'.ownsRow b e s v n xs :=
  hk.ownsRow h fun g h1 h2 => types_apart hne h hr g h1 h2.symm
/-- a prefix of a row of the call's own -/
theorem OwnInts.takeI {W : World} {base : Nat} {g n c j : Nat} {l : List Int} (h : OwnInts W base (.slice (some ⟨g, 0, none⟩) n c) l) (hj : j ≤ l.length) : OwnInts W base (.slice (some ⟨g, 0, none⟩) j c) (l.take j) := by
  rcases h.2 with ⟨h1, h0⟩ | ⟨g', cap, cur, h1, hb, hg, h2, h3, h4, h5⟩
  · simp at h1
  · simp at h1
    obtain ⟨rfl, rfl, rfl⟩ := h1
    have hl : (l.take j).length = j := by rw [List.length_take]; omega
    unfold OwnInts
    rw [hl]
    refine ⟨by simp; omega, .inr ⟨g, c, cur, rfl, hb, hg, by omega, h3, h4, ?_⟩⟩
    have e1 : (l.take j).map (Value.int .i64) = (l.map (Value.int .i64)).take (j * 1) := by rw [Nat.mul_one, List.map_take]
    rw [e1, ← h5, List.take_take, Nat.min_eq_left (by omega)]
theorem OwnBars.takeP {W : World} {base : Nat} {g n c j : Nat} {l : List BarT} (h : OwnBars W base (.slice (some ⟨g, 0, none⟩) n c) l) (hj : j ≤ l.length) : OwnBars W base (.slice (some ⟨g, 0, none⟩) j c) (l.take j) := by
  rcases h.2 with ⟨h1, h0⟩ | ⟨g', cap, cur, h1, hb, hg, h2, h3, h4, h5⟩
  · simp at h1
  · simp at h1
    obtain ⟨rfl, rfl, rfl⟩ := h1
    have hl : (l.take j).length = j := by rw [List.length_take]; omega
    have e1 : (l.take j).flatMap cellsBar = (l.flatMap cellsBar).take (j * 2) := by
      have e2 : l.flatMap cellsBar = (l.take j).flatMap cellsBar ++ (l.drop j).flatMap cellsBar := by rw [← List.flatMap_append, List.take_append_drop]
      have e3 : ((l.take j).flatMap cellsBar).length = j * 2 := by rw [flat2 cellsBar (fun _ => rfl), hl]
      conv => rhs; rw [e2]
      rw [List.take_append_of_le_length (Nat.le_of_eq e3.symm), List.take_of_length_le (Nat.le_of_eq e3)]
    unfold OwnBars
    rw [hl]
    refine ⟨by rw [flat2 cellsBar (fun _ => rfl), hl], .inr ⟨g, c, cur, rfl, hb, hg, by omega, h3, h4, ?_⟩⟩
    rw [e1, ← h5, List.take_take, Nat.min_eq_left (by omega)]
/-- 'append(s, x)' of one bar, as a step of a region that draws -/
theorem stepBarP {w : World} {ops : Array Oper} {o : Oper} {a : Act} {K : Act → World → Prop} {Q : Exit → Act → World → Prop} {E : Prop} (hg : o.guard = none) (s x : Operand)
    (ho : o.op = .call { callee := .builtin .append, args := #[s, x], argTypes := #[24, 24] }) {base : Nat} {v : Value} {l : List BarT} (hs : a.eval s = v) (hown : OwnBars w base v l)
    (y1 y2 : Int) (g : Nat) (hx : a.eval x = .slice (some ⟨g, 0, none⟩) 1 1) (hc0 : w.cell? ⟨g, 0, none⟩ = some (.int .i64 y1)) (hc1 : w.cell? ⟨g, 1, none⟩ = some (.int .i64 y2)) (hl : l.length < 1099511627776) (hbase : base ≤ w.heap.size)
    (hK : ∀ v' w', OwnBars w' base v' (l ++ [(y1, y2)]) → Kept (fun k => some k = v.ownBlock) w w' → (v'.ownBlock = v.ownBlock ∨ v'.ownBlock = some w.heap.size) → K (a.put o.dst v') w') :
    if Region.wanted o (yielded ops a.tmps) = true then Oper.wp Tryz.prog o a w K Q else E := by
  obtain ⟨i0, hi, hz0, hz1, hz2⟩ := info_parts infoBar
  refine step_append_whole _ hg s x 24 ho base 70 i0 _ 2 16 Tryz.underlying24 hi hz0 hz1 hz2 rfl (by decide) v l.length (l.flatMap cellsBar) hs hown (some ⟨g, 0, none⟩) 1 1 [.int .i64 y1, .int .i64 y2] hx rfl ?_ (by intro u hu; simp at hu; rcases hu with rfl | rfl <;> rfl) (by unfold maxLen; omega) (by omega) hbase ?_
  · intro j u hu
    have hj : j < 2 := by have := lt_of_getElem? hu; simpa using this
    obtain rfl | rfl : j = 0 ∨ j = 1 := by omega
    · simp at hu; subst hu; exact ⟨g, 0, rfl, hc0⟩
    · simp at hu; subst hu; exact ⟨g, 0, rfl, hc1⟩
  · intro v' w' h1 h2 h3
    refine hK v' w' ?_ (Kept.of_grown h2) h3
    unfold OwnBars
    simpa [cellsBar] using h1
/-- the bars of a set -/
def barsOf (l : List BarT) (s : List Int) : List BarT := s.map fun e => l[e.toNat]?.getD (0, 0)
theorem barsOf_E (l : List BarT) (s : List Int) : (barsOf l s).map eN = setE l s := by unfold barsOf setE; rw [List.map_map]; rfl
theorem barsOf_snoc {l : List BarT} {s : List Int} {e : Nat} {x : BarT} (h : l[e]? = some x) : barsOf l (s ++ [(e : Int)]) = barsOf l s ++ [x] := by
  unfold barsOf
  rw [List.map_append]
  simp [h]
theorem barsOf_len (l : List BarT) (s : List Int) : (barsOf l s).length = s.length := by simp [barsOf]
/-- where things lie: the boxes of g, k, parts, out, fill, and the outer blocks of parts and out -/
structure Adr where
  gB : Nat
  kB : Nat
  pB : Nat
  oB : Nat
  fB : Nat
  pg : Nat
  pc : Nat
  og : Nat
  oc : Nat
def Adr.box (A : Adr) (b : Nat) : Prop := b = A.gB ∨ b = A.kB ∨ b = A.pB ∨ b = A.oB ∨ b = A.fB
def Adr.clos (A : Adr) : Value := .func (.func 49) #[] #[.pointer (some ⟨A.gB, 0, none⟩), .pointer (some ⟨A.kB, 0, none⟩), .pointer (some ⟨A.pB, 0, none⟩), .pointer (some ⟨A.oB, 0, none⟩), .pointer (some ⟨A.fB, 0, none⟩)]
structure FilM (W0 w : World) (A : Adr) (P : Nat) (a : Option Addr) (gcap : Nat) (l : List BarT) (k : Nat) (vs us : List Value) (S : List (List Int)) (T : List (List BarT)) : Prop where
  bel : Below W0.heap.size W0 w
  g0 : w.cell? ⟨A.gB, 0, none⟩ = some (.int .i64 (P : Int))
  g1 : w.cell? ⟨A.gB, 1, none⟩ = some (.slice a l.length gcap)
  ck : w.cell? ⟨A.kB, 0, none⟩ = some (.int .i64 (k : Int))
  cp : w.cell? ⟨A.pB, 0, none⟩ = some (.slice (some ⟨A.pg, 0, none⟩) k A.pc)
  co : w.cell? ⟨A.oB, 0, none⟩ = some (.slice (some ⟨A.og, 0, none⟩) k A.oc)
  cf : w.cell? ⟨A.fB, 0, none⟩ = some A.clos
  lt : ∀ b, A.box b → b < w.heap.size
  mo : MatO w W0.heap.size A.og k A.oc vs S
  mb : MatB w W0.heap.size A.pg k A.pc us T
  apo : ∀ b, A.box b → b ≠ A.pg ∧ b ≠ A.og
  apv : ∀ b, A.box b → ∀ v ∈ vs, v.ownBlock ≠ some b
  apu : ∀ b, A.box b → ∀ v ∈ us, v.ownBlock ≠ some b
section
variable {W0 w w' : World} {A : Adr} {P : Nat} {a : Option Addr} {gcap : Nat} {l : List BarT} {k : Nat} {vs us : List Value} {S : List (List Int)} {T : List (List BarT)}
theorem Adr.bG (A : Adr) : A.box A.gB := .inl rfl
theorem Adr.bK (A : Adr) : A.box A.kB := .inr (.inl rfl)
theorem Adr.bP (A : Adr) : A.box A.pB := .inr (.inr (.inl rfl))
theorem Adr.bO (A : Adr) : A.box A.oB := .inr (.inr (.inr (.inl rfl)))
theorem Adr.bF (A : Adr) : A.box A.fB := .inr (.inr (.inr (.inr rfl)))
theorem FilM.below (h : FilM W0 w A P a gcap l k vs us S T) (hb : Below w.heap.size w w') : FilM W0 w' A P a gcap l k vs us S T where
  bel := h.bel.step hb
  g0 := (hb.cell (p := ⟨A.gB, 0, none⟩) (h.lt _ A.bG)).trans h.g0
  g1 := (hb.cell (p := ⟨A.gB, 1, none⟩) (h.lt _ A.bG)).trans h.g1
  ck := (hb.cell (p := ⟨A.kB, 0, none⟩) (h.lt _ A.bK)).trans h.ck
  cp := (hb.cell (p := ⟨A.pB, 0, none⟩) (h.lt _ A.bP)).trans h.cp
  co := (hb.cell (p := ⟨A.oB, 0, none⟩) (h.lt _ A.bO)).trans h.co
  cf := (hb.cell (p := ⟨A.fB, 0, none⟩) (h.lt _ A.bF)).trans h.cf
  lt := fun b hx => Nat.lt_of_lt_of_le (h.lt b hx) hb.size
  mo := h.mo.below hb
  mb := h.mb.below hb
  apo := h.apo
  apv := h.apv
  apu := h.apu
/-- some block of bars, ints or rows is written, which is no box -/
theorem FilM.boxes {K : Nat → Prop} (h : FilM W0 w A P a gcap l k vs us S T) (hk : Kept K w w') (hK : ∀ b, A.box b → ¬ K b) (hlow : ∀ b, b < W0.heap.size → ¬ K b) {vs' us' : List Value} {S' : List (List Int)} {T' : List (List BarT)}
    (hmo : MatO w' W0.heap.size A.og k A.oc vs' S') (hmb : MatB w' W0.heap.size A.pg k A.pc us' T') (hv : ∀ b, A.box b → ∀ v ∈ vs', v.ownBlock ≠ some b) (hu : ∀ b, A.box b → ∀ v ∈ us', v.ownBlock ≠ some b) : FilM W0 w' A P a gcap l k vs' us' S' T' where
  bel := h.bel.trans (hk.below h.bel.size hlow)
  g0 := (hk.cell (h.lt _ A.bG) (hK _ A.bG)).trans h.g0
  g1 := (hk.cell (h.lt _ A.bG) (hK _ A.bG)).trans h.g1
  ck := (hk.cell (h.lt _ A.bK) (hK _ A.bK)).trans h.ck
  cp := (hk.cell (h.lt _ A.bP) (hK _ A.bP)).trans h.cp
  co := (hk.cell (h.lt _ A.bO) (hK _ A.bO)).trans h.co
  cf := (hk.cell (h.lt _ A.bF) (hK _ A.bF)).trans h.cf
  lt := fun b hx => Nat.lt_of_lt_of_le (h.lt b hx) hk.size
  mo := hmo
  mb := hmb
  apo := h.apo
  apv := hv
  apu := hu
theorem mem_set_or {α : Type} {l : List α} {i : Nat} {x y : α} (h : y ∈ l.set i x) : y ∈ l ∨ y = x := List.mem_or_eq_of_mem_set h
/-- one row of parts is written, and stored -/
theorem FilM.putP (h : FilM W0 w A P a gcap l k vs us S T) {i : Nat} {u v : Value} {r r' : List BarT} (hu : us[i]? = some u) (hr : T[i]? = some r) (hk : Kept (fun b => some b = u.ownBlock) w w') (ho : OwnBars w' W0.heap.size v r')
    (hf : v.ownBlock = u.ownBlock ∨ ∀ b, v.ownBlock = some b → w.heap.size ≤ b) : FilM W0 (w'.setCell ⟨A.pg, i, none⟩ v) A P a gcap l k vs (us.set i v) S (T.set i r') := by
  have hou : OwnBars w W0.heap.size u r := h.mb.rows.own i u r hu hr
  have hout : w'.ownsRow W0.heap.size 24 1 (.slice (some ⟨A.pg, 0, none⟩) k A.pc) k us := kept_apart (by decide) h.mb.out hou hk
  have hrows : BRows w' W0.heap.size (us.set i v) (T.set i r') := h.mb.rows.put hu hk ho fun j q hq hj b h1 h2 => by
    rcases hf with hf | hf
    · rw [hf] at h2
      exact h.mb.rows.ne hq hu hj b h1 h2
    · have := hf b h2
      have := (h.mb.rows.lt q (List.mem_of_getElem? hq) b h1).2
      omega
  have hks : Kept (fun b => some b = Value.ownBlock (.slice (some ⟨A.pg, 0, none⟩) k A.pc)) w' (w'.setCell ⟨A.pg, i, none⟩ v) := keptSet rfl
  have hmb : MatB (w'.setCell ⟨A.pg, i, none⟩ v) W0.heap.size A.pg k A.pc (us.set i v) (T.set i r') :=
    ⟨ownsRow_setB hout v, hrows.kept hks fun q hq b h1 h2 => by
      obtain ⟨t, ht⟩ := hrows.mem hq
      exact types_apart (by decide) hout ht b h2.symm h1⟩
  have hmo1 : MatO w' W0.heap.size A.og k A.oc vs S := ⟨kept_apart (by decide) h.mo.out hou hk, h.mo.rows.kept hk fun q hq b h1 h2 => by
    obtain ⟨t, ht⟩ := h.mo.rows.mem hq
    exact types_apart (by decide) ht hou b h1 h2.symm⟩
  have hmo : MatO (w'.setCell ⟨A.pg, i, none⟩ v) W0.heap.size A.og k A.oc vs S := ⟨kept_apart (by decide) hmo1.out hout hks, hmo1.rows.kept hks fun q hq b h1 h2 => by
    obtain ⟨t, ht⟩ := hmo1.rows.mem hq
    exact types_apart (by decide) ht hout b h1 h2.symm⟩
  have hpg := h.mb.blk
  have hul : ∀ b, some b = u.ownBlock → W0.heap.size ≤ b ∧ b < w.heap.size := fun b hb => World.ownsRow.lt hou b hb.symm
  refine h.boxes (K := fun b => some b = u.ownBlock ∨ b = A.pg) ((hk.mono fun b _ hb => .inl hb).trans (keptSet (.inr rfl))) (fun b hb hx => ?_) (fun b hb hx => ?_) hmo hmb h.apv (fun b hb q hq e => ?_)
  · rcases hx with hx | hx
    · exact h.apu b hb u (List.mem_of_getElem? hu) hx.symm
    · exact (h.apo b hb).1 hx
  · rcases hx with hx | hx
    · have := (hul b hx).1; omega
    · have := hpg.2; omega
  · rcases mem_set_or hq with hq | hq
    · exact h.apu b hb q hq e
    · subst hq
      rcases hf with hf | hf
      · rw [hf] at e
        exact h.apu b hb u (List.mem_of_getElem? hu) e
      · have := hf b e
        have := h.lt b hb
        omega
/-- one row of out is written, and stored -/
theorem FilM.putO (h : FilM W0 w A P a gcap l k vs us S T) {i : Nat} {u v : Value} {r r' : List Int} (hu : vs[i]? = some u) (hr : S[i]? = some r) (hk : Kept (fun b => some b = u.ownBlock) w w') (ho : OwnInts w' W0.heap.size v r')
    (hf : v.ownBlock = u.ownBlock ∨ ∀ b, v.ownBlock = some b → w.heap.size ≤ b) : FilM W0 (w'.setCell ⟨A.og, i, none⟩ v) A P a gcap l k (vs.set i v) us (S.set i r') T := by
  have hou : OwnInts w W0.heap.size u r := h.mo.rows.own i u r hu hr
  have hmo : MatO (w'.setCell ⟨A.og, i, none⟩ v) W0.heap.size A.og k A.oc (vs.set i v) (S.set i r') := h.mo.put hu hr hk ho hf
  have hout : w'.ownsRow W0.heap.size 35 1 (.slice (some ⟨A.og, 0, none⟩) k A.oc) k vs := kept_apart (by decide) h.mo.out hou hk
  have hks : Kept (fun b => some b = Value.ownBlock (.slice (some ⟨A.og, 0, none⟩) k A.oc)) w' (w'.setCell ⟨A.og, i, none⟩ v) := keptSet rfl
  have hmb1 : MatB w' W0.heap.size A.pg k A.pc us T := ⟨kept_apart (by decide) h.mb.out hou hk, h.mb.rows.kept hk fun q hq b h1 h2 => by
    obtain ⟨t, ht⟩ := h.mb.rows.mem hq
    exact types_apart (by decide) ht hou b h1 h2.symm⟩
  have hmb : MatB (w'.setCell ⟨A.og, i, none⟩ v) W0.heap.size A.pg k A.pc us T := ⟨kept_apart (by decide) hmb1.out hout hks, hmb1.rows.kept hks fun q hq b h1 h2 => by
    obtain ⟨t, ht⟩ := hmb1.rows.mem hq
    exact types_apart (by decide) ht hout b h1 h2.symm⟩
  have hog := h.mo.blk
  have hul : ∀ b, some b = u.ownBlock → W0.heap.size ≤ b ∧ b < w.heap.size := fun b hb => hou.lt b hb.symm
  refine h.boxes (K := fun b => some b = u.ownBlock ∨ b = A.og) ((hk.mono fun b _ hb => .inl hb).trans (keptSet (.inr rfl))) (fun b hb hx => ?_) (fun b hb hx => ?_) hmo hmb (fun b hb q hq e => ?_) h.apu
  · rcases hx with hx | hx
    · exact h.apv b hb u (List.mem_of_getElem? hu) hx.symm
    · exact (h.apo b hb).2 hx
  · rcases hx with hx | hx
    · have := (hul b hx).1; omega
    · have := hog.2; omega
  · rcases mem_set_or hq with hq | hq
    · exact h.apv b hb q hq e
    · subst hq
      rcases hf with hf | hf
      · rw [hf] at e
        exact h.apv b hb u (List.mem_of_getElem? hu) e
      · have := hf b e
        have := h.lt b hb
        omega
end
end Go.Proofs.YtfbmpkdjhhcnpaaGreat

