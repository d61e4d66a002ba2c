/- Packing trees: the plain law of the search. -/
import Derived.Test.YtfdhbbhfilkafaaOvr0
import Derived.Test.YtfdhbbhfilkafaaFoh
namespace Go.Proofs.Ytfdhbbhfilkafaa
open Go.RowKit
set_option maxRecDepth 100000
set_option linter.unusedVariables false
set_option linter.unusedSimpArgs false
/-- the first answer of some tries -/
def firstS {β : Type} (f : Nat → Option β) : Nat → Option β
  | 0 => none
  | k + 1 => match firstS f k with
    | some r => some r
    | none => f k
theorem firstS_none {β : Type} {f : Nat → Option β} : ∀ k, (∀ j, j < k → f j = none) → firstS f k = none
  | 0, _ => rfl
  | k + 1, h => by
    unfold firstS
    rw [firstS_none k fun j hj => h j (by omega)]
    exact h k (by omega)
theorem firstS_all {β : Type} {f : Nat → Option β} : ∀ k, firstS f k = none → ∀ j, j < k → f j = none
  | 0, _, j, hj => absurd hj (Nat.not_lt_zero _)
  | k + 1, h, j, hj => by
    unfold firstS at h
    cases h1 : firstS f k with
    | some r => rw [h1] at h; simp at h
    | none =>
      rw [h1] at h
      by_cases e : j = k
      · subst e; exact h
      · exact firstS_all k h1 j (by omega)
theorem firstS_hit {β : Type} {f : Nat → Option β} {i : Nat} {r : β} (hn : ∀ j, j < i → f j = none) (hi : f i = some r) : ∀ k, i < k → firstS f k = some r
  | 0, h => absurd h (Nat.not_lt_zero _)
  | k + 1, h => by
    unfold firstS
    by_cases e : i = k
    · subst e
      rw [firstS_none i hn]
      exact hi
    · rw [firstS_hit hn hi k (by omega)]
abbrev SetsT := List (List Int)
def setA (S : SetsT) (i : Nat) : List Int := S[i]?.getD []
theorem setA_get {S : SetsT} {i : Nat} (h : i < S.length) : S[i]? = some (setA S i) := by unfold setA; rw [List.getElem?_eq_getElem h]; rfl
theorem setA_set {S : SetsT} {i j : Nat} {x : List Int} (h : i < S.length) : setA (S.set i x) j = if j = i then x else setA S j := by
  unfold setA
  by_cases e : j = i
  · subst e
    rw [List.getElem?_set_self h, if_pos rfl]; rfl
  · rw [List.getElem?_set_ne (fun e2 => e e2.symm), if_neg e]
/-- all ways to give the bars from e on to k sets -/
def fillS (F : List Int → Bool) (k : Nat) : Nat → Nat → SetsT → Option SetsT
  | 0, _, S => some S
  | d + 1, e, S => firstS (fun i => if F (setA S i ++ [(e : Int)]) = true then fillS F k d (e + 1) (S.set i (setA S i ++ [(e : Int)])) else none) k
def tryS (F : List Int → Bool) (k d e : Nat) (S : SetsT) (i : Nat) : Option SetsT := if F (setA S i ++ [(e : Int)]) = true then fillS F k d (e + 1) (S.set i (setA S i ++ [(e : Int)])) else none
theorem fillS_succ (F : List Int → Bool) (k d e : Nat) (S : SetsT) : fillS F k (d + 1) e S = firstS (tryS F k d e S) k := rfl
theorem fill_perm (F : List Int → Bool) (k : Nat) (π : Nat → Nat) (hπ : ∀ t, π (π t) = t) (hk : ∀ t, t < k → π t < k) : ∀ (d e : Nat) (S S' : SetsT), S.length = k → S'.length = k → (∀ t, t < k → setA S' t = setA S (π t)) → fillS F k d e S = none → fillS F k d e S' = none
  | 0, e, S, S', _, _, _, h => by simp [fillS] at h
  | d + 1, e, S, S', h1, h2, hr, h => by
    rw [fillS_succ] at h ⊢
    refine firstS_none k fun t ht => ?_
    have h3 := firstS_all k h (π t) (hk t ht)
    unfold tryS at h3 ⊢
    rw [hr t ht]
    split
    · rename_i hF
      rw [if_pos hF] at h3
      refine fill_perm F k π hπ hk d (e + 1) _ _ (by simp [h1]) (by simp [h2]) (fun s hs => ?_) h3
      rw [setA_set (by rw [h2]; exact ht), setA_set (by rw [h1]; exact hk t ht)]
      by_cases e1 : s = t
      · subst e1; rw [if_pos rfl, if_pos rfl]
      · rw [if_neg e1, if_neg fun e2 => e1 (by rw [← hπ s, e2, hπ]), hr s hs]
    · rfl
def swp (i j t : Nat) : Nat := if t = i then j else if t = j then i else t
theorem fill_stop {F : List Int → Bool} {k d e i : Nat} {S : SetsT} (hl : S.length = k) (hi : i < k) (h0 : ∀ j, j < i → tryS F k d e S j = none) (h1 : tryS F k d e S i = none) (he : ∀ j, i ≤ j → j < k → setA S j = []) : fillS F k (d + 1) e S = none := by
  rw [fillS_succ]
  refine firstS_none k fun j hj => ?_
  by_cases c1 : j < i
  · exact h0 j c1
  · by_cases c2 : j = i
    · subst c2; exact h1
    · unfold tryS at h1 ⊢
      rw [he i (Nat.le_refl _) hi] at h1
      rw [he j (by omega) hj]
      split
      · rename_i hF
        rw [if_pos hF] at h1
        refine fill_perm F k (swp i j) (fun t => ?_) (fun t ht => ?_) d (e + 1) _ _ (by simp [hl]) (by simp [hl]) (fun s hs => ?_) h1
        · unfold swp; split <;> (try split) <;> (try split) <;> (try split) <;> omega
        · unfold swp; split <;> (try split) <;> omega
        · rw [setA_set (by rw [hl]; exact hj), setA_set (by rw [hl]; exact hi)]
          by_cases e1 : s = j
          · subst e1
            rw [if_pos rfl, if_pos (by unfold swp; split <;> (try split) <;> omega)]
          · rw [if_neg e1]
            by_cases e2 : s = i
            · subst e2
              have e3 : swp s j s = j := by unfold swp; rw [if_pos rfl]
              rw [e3, if_neg (by omega), he s (Nat.le_refl _) hi, he j (by omega) hj]
            · have e3 : swp i j s = s := by unfold swp; rw [if_neg e2, if_neg e1]
              rw [e3, if_neg e2]
      · rfl
/-- sets of bars below e, the empty ones last -/
structure SetsOk (k e : Nat) (S : SetsT) : Prop where
  len : S.length = k
  asc : ∀ t, (setA S t).Pairwise (· < ·)
  rng : ∀ t, ∀ x ∈ setA S t, 0 ≤ x ∧ x < (e : Int)
theorem SetsOk.add {k e i : Nat} {S : SetsT} (h : SetsOk k e S) (hi : i < k) : SetsOk k (e + 1) (S.set i (setA S i ++ [(e : Int)])) where
  len := by simp [h.len]
  asc := fun t => by
    rw [setA_set (by rw [h.len]; exact hi)]
    split
    · refine List.pairwise_append.2 ⟨h.asc i, List.pairwise_singleton _ _, fun x hx y hy => ?_⟩
      obtain rfl := List.mem_singleton.1 hy
      exact (h.rng i x hx).2
    · exact h.asc t
  rng := fun t x hx => by
    rw [setA_set (by rw [h.len]; exact hi)] at hx
    split at hx
    · rcases List.mem_append.1 hx with h1 | h1
      · have := h.rng i x h1; omega
      · obtain rfl := List.mem_singleton.1 h1; omega
    · have := h.rng t x hx; omega
theorem SetsOk.none (k : Nat) : SetsOk k 0 (List.replicate k []) where
  len := by simp
  asc := fun t => by
    have : setA (List.replicate k []) t = [] := by unfold setA; rw [List.getElem?_replicate]; split <;> rfl
    rw [this]; exact List.Pairwise.nil
  rng := fun t x hx => by
    have : setA (List.replicate k []) t = [] := by unfold setA; rw [List.getElem?_replicate]; split <;> rfl
    rw [this] at hx; exact absurd hx (by simp)
theorem pw_len {s : List Int} {e : Nat} (h : s.Pairwise (· < ·)) (hr : ∀ x ∈ s, 0 ≤ x ∧ x < (e : Int)) : s.length ≤ e := by
  have key : ∀ i, (hi : i < s.length) → (i : Int) ≤ s[i] := by
    intro i
    induction i with
    | zero => intro hi; exact (hr _ (List.getElem_mem hi)).1
    | succ i ih =>
      intro hi
      have h1 := ih (by omega)
      have h2 := List.pairwise_iff_getElem.1 h i (i + 1) (by omega) hi (by omega)
      omega
  rcases Nat.eq_zero_or_pos s.length with h0 | h0
  · omega
  · have h1 := key (s.length - 1) (by omega)
    have h2 := (hr _ (List.getElem_mem (show s.length - 1 < s.length by omega))).2
    omega
theorem SetsOk.lenA {k e : Nat} {S : SetsT} (h : SetsOk k e S) (t : Nat) : (setA S t).length ≤ e := pw_len (h.asc t) (h.rng t)
theorem setB_mk {g : GraphT} {s : List Int} (hg : isGraphB g = true) (h : s.Pairwise (· < ·)) (hr : ∀ x ∈ s, 0 ≤ x ∧ x < (g.2.length : Int)) : setB g s = true := by
  unfold setB
  rw [hg, Bool.and_true, List.all_eq_true]
  intro i hi
  have hi := List.mem_range.1 hi
  have hx := hr _ (List.getElem_mem hi)
  unfold setAt inB
  rw [List.getElem?_eq_getElem hi]
  simp only [Option.getD_some, Bool.and_eq_true, decide_eq_true_eq, Bool.or_eq_true, beq_iff_eq]
  refine ⟨⟨hx.1, by omega⟩, ?_⟩
  rcases Nat.eq_zero_or_pos i with h0 | h0
  · exact .inl h0
  · right
    rw [List.getElem?_eq_getElem (show i - 1 < s.length by omega)]
    simpa using List.pairwise_iff_getElem.1 h (i - 1) i (by omega) hi (by omega)
/-- the test on a set -/
def forF (l : List BarT) (s : List Int) : Bool := Fo.forestB (setE l s)
theorem frst_for {P : Nat} {l : List BarT} {k e i : Nat} {S : SetsT} (hg : isGraphB ((P : Int), l) = true) (h : SetsOk k e S) (hi : i < k) (he : e < l.length) : frstB ((P : Int), l) (setA S i ++ [(e : Int)]) = forF l (setA S i ++ [(e : Int)]) := by
  have h1 := h.add hi
  have h2 := h1.asc i
  have h3 := h1.rng i
  rw [setA_set (by rw [h.len]; exact hi), if_pos rfl] at h2 h3
  unfold frstB forF
  rw [setB_mk hg h2 fun x hx => ⟨(h3 x hx).1, by have := (h3 x hx).2; show x < (l.length : Int); omega⟩, Bool.true_and]
/-- what PackTrees returns -/
def packO (g : GraphT) (k : Int) : Option SetsT := if (inB k 1 3 && (tightB g k k && decide (g.1 ≤ 5))) = true then fillS (forF g.2) k.toNat g.2.length 0 (List.replicate k.toNat []) else none
def packL (g : GraphT) (k : Int) : SetsT := (packO g k).getD []
def packOk (g : GraphT) (k : Int) : Bool := (packO g k).isSome
end Go.Proofs.Ytfdhbbhfilkafaa
