/- The pebble game for (2,3) finds the greatest number of independent bars: so the number does not hang on the bars' order. Plain Lean, no program in sight. -/
import Derived.Test.YtfbmpkdjhhcnpaaGreatTrP37
import Derived.Test.YtfbmpkdjhhcnpaaGreatTrP13
import Derived.Test.YtfbmpkdjhhcnpaaGreatTrP35
import Derived.Test.YtfbmpkdjhhcnpaaGreatTrP15
import Derived.Test.YtfbmpkdjhhcnpaaGreatTrP10
import Derived.Test.YtfbmpkdjhhcnpaaGreatTrP18
import Derived.Test.YtfbmpkdjhhcnpaaGreatTrP04
import Derived.Test.YtfbmpkdjhhcnpaaGreatTrP12
import Derived.Deep.QuietTactic
import Derived.BigQuiet
namespace Go.Proofs.YtfbmpkdjhhcnpaaGreat
open Go.RowKit Mtr
set_option maxRecDepth 100000
set_option linter.unusedVariables false
set_option linter.unusedSimpArgs false

/-- free pebbles in a set -/
def fsV (F : List Int) (n : Nat) (V : Int → Bool) : Int := ((List.range n).map fun v : Nat => if V (v : Int) = true then gI F v else 0).sum
theorem count_split (V : Int → Bool) : ∀ (n : Nat) (T : List Int), (∀ t ∈ T, 0 ≤ t ∧ t < n) → ((List.range n).map fun v : Nat => if V (v : Int) = true then T.count (v : Int) else 0).sum = T.countP V
  | n, [], _ => by
    have : ((List.range n).map fun v : Nat => if V (v : Int) = true then ([] : List Int).count (v : Int) else 0) = (List.range n).map fun _ => 0 := by
      refine List.map_congr_left fun v _ => ?_
      simp
    rw [this]
    induction n with
    | zero => rfl
    | succ n ih => rw [List.range_succ, List.map_append, List.sum_append]; simp at ih ⊢; exact ih
  | n, t :: T, h => by
    have ih := count_split V n T fun x hx => h x (by simp [hx])
    obtain ⟨h0, h1⟩ := h t (by simp)
    obtain ⟨tN, rfl⟩ := Int.eq_ofNat_of_zero_le h0
    have key : ∀ m : Nat, ((List.range m).map fun v : Nat => if V (v : Int) = true then ((tN : Int) :: T).count (v : Int) else 0).sum = ((List.range m).map fun v : Nat => if V (v : Int) = true then T.count (v : Int) else 0).sum + (if tN < m ∧ V (tN : Int) = true then 1 else 0) := by
      intro m
      induction m with
      | zero => simp
      | succ m ihm =>
        rw [List.range_succ, List.map_append, List.map_append, List.sum_append, List.sum_append, ihm]
        simp only [List.map_cons, List.map_nil, List.sum_cons, List.sum_nil, Nat.add_zero]
        rw [List.count_cons]
        by_cases e : tN = m
        · subst e
          by_cases hv : V (tN : Int) = true
          · simp [hv]; omega
          · simp [hv]
        · have e2 : ((tN : Int) == (m : Int)) = false := by rw [beq_eq_false_iff_ne]; omega
          simp only [e2]
          by_cases hv : V (tN : Int) = true
          · by_cases hl : tN < m
            · have : tN < m + 1 := by omega
              simp [hv, hl, this]; omega
            · have : ¬ tN < m + 1 := by omega
              simp [hv, hl, this]
          · simp [hv]
    rw [key n, ih, List.countP_cons]
    have : tN < n := by omega
    by_cases hv : V (tN : Int) = true
    · simp [hv, this]
    · simp [hv]
theorem fs_split {n : Nat} {k : Int} {F T : List Int} (V : Int → Bool) (h : ∀ v : Nat, v < n → gI F v + (T.count (v : Int) : Nat) = k) : ∀ m : Nat, m ≤ n → fsV F m V + (((List.range m).map fun v : Nat => if V (v : Int) = true then T.count (v : Int) else 0).sum : Nat) = k * (sz m V : Nat)
  | 0, _ => by simp [fsV, sz]
  | m + 1, hm => by
    have ih := fs_split V h m (by omega)
    have hv := h m (by omega)
    unfold fsV sz at *
    rw [List.range_succ, List.map_append, List.map_append, List.sum_append, List.sum_append, List.countP_append]
    simp only [List.map_cons, List.map_nil, List.sum_cons, List.sum_nil, List.countP_cons, List.countP_nil]
    by_cases e : V (m : Int) = true
    · simp only [e, if_true]
      push_cast at ih ⊢
      rw [Int.mul_add]
      omega
    · simp only [e]
      simp only [Bool.false_eq_true, if_false] at *
      push_cast at ih ⊢
      rw [Int.mul_add]
      omega
theorem fs_nonneg {n : Nat} {F : List Int} {V : Int → Bool} (h : ∀ v : Nat, v < n → 0 ≤ gI F v) : ∀ m, m ≤ n → 0 ≤ fsV F m V
  | 0, _ => by simp [fsV]
  | m + 1, hm => by
    have ih := fs_nonneg (V := V) h m (by omega)
    have := h m (by omega)
    unfold fsV at *
    rw [List.range_succ, List.map_append, List.sum_append]
    simp only [List.map_cons, List.map_nil, List.sum_cons, List.sum_nil]
    split <;> omega
/-- one point's pebbles are among them -/
theorem fs_two {n : Nat} {F : List Int} {V : Int → Bool} (h : ∀ v : Nat, v < n → 0 ≤ gI F v) {a b : Nat} (hab : a < b) (ha : V (a : Int) = true) (hb : V (b : Int) = true) : ∀ m, m ≤ n → b < m → gI F a + gI F b ≤ fsV F m V := by
  have one : ∀ m, m ≤ n → a < m → gI F a ≤ fsV F m V := by
    intro m
    induction m with
    | zero => intro _ h; omega
    | succ m ih =>
      intro hm hlt
      have h0 := fs_nonneg (V := V) h m (by omega)
      have h1 := h m (by omega)
      have e : fsV F (m + 1) V = fsV F m V + (if V (m : Int) = true then gI F m else 0) := by
        unfold fsV
        rw [List.range_succ, List.map_append, List.sum_append]
        simp
      rw [e]
      by_cases hm2 : a = m
      · subst hm2; rw [if_pos ha]; omega
      · have := ih (by omega) (by omega)
        split <;> omega
  intro m
  induction m with
  | zero => intro _ h; omega
  | succ m ih =>
    intro hm hlt
    have h1 := h m (by omega)
    have e : fsV F (m + 1) V = fsV F m V + (if V (m : Int) = true then gI F m else 0) := by
      unfold fsV
      rw [List.range_succ, List.map_append, List.sum_append]
      simp
    rw [e]
    by_cases hm2 : b = m
    · subst hm2
      have := one b (by omega) hab
      rw [if_pos hb]; omega
    · have := ih (by omega) (by omega)
      split <;> omega
/-- the bars placed -/
def plB (bars : List BarT) (S : PebT) : List E := S.2.2.map fun e => gB bars e.toNat
theorem countP_idx {α : Type} (p : α → Bool) (d : α) : ∀ l : List α, l.countP p = (List.range l.length).countP fun j => p (l[j]?.getD d)
  | [] => rfl
  | x :: l => by
    rw [List.length_cons, List.range_succ_eq_map, List.countP_cons, List.countP_cons, countP_idx p d l, List.countP_map]
    rfl
theorem plB_idx (bars : List BarT) (S : PebT) (V : Int → Bool) : ic (plB bars S) V = (List.range S.2.2.length).countP fun j => inn V (gB bars (gI S.2.2 j).toNat) := by
  unfold ic plB
  rw [List.countP_map, countP_idx _ (0 : Int)]
  rfl
theorem tl_idx (S : PebT) (V : Int → Bool) : S.2.1.countP V = (List.range S.2.1.length).countP fun j => V (gI S.2.1 j) := countP_idx V 0 S.2.1
theorem Inv.tails {n : Nat} {k : Int} {bars : List BarT} {E : Nat} {S : PebT} (h : Inv n k bars E S) (hb : Bok n bars) (hE : E ≤ bars.length) : ∀ t ∈ S.2.1, 0 ≤ t ∧ t < n := by
  intro t ht
  obtain ⟨j, hj⟩ := List.getElem?_of_mem ht
  have hl := lt_of_getElem? hj
  have := (h.hp hb hE (j := j) (by rw [← h.tl]; exact hl)).1
  have e : gI S.2.1 j = t := by unfold gI; rw [hj]; rfl
  rw [← e]; exact this
/-- pebbles and bars of a set -/
theorem Inv.sum {n : Nat} {k : Int} {bars : List BarT} {E : Nat} {S : PebT} (h : Inv n k bars E S) (hb : Bok n bars) (hE : E ≤ bars.length) (V : Int → Bool) : fsV S.1 n V + (S.2.1.countP V : Nat) = k * (sz n V : Nat) := by
  have h1 := fs_split (F := S.1) (T := S.2.1) V (fun v hv => (h.fr v hv).2) n (Nat.le_refl _)
  rwa [count_split V n S.2.1 (h.tails hb hE)] at h1
theorem Inv.le {n : Nat} {k : Int} {bars : List BarT} {E : Nat} {S : PebT} (h : Inv n k bars E S) (hb : Bok n bars) (hE : E ≤ bars.length) (V : Int → Bool) : ic (plB bars S) V ≤ S.2.1.countP V := by
  rw [plB_idx, tl_idx, h.tl]
  refine List.countP_mono_left fun j hj hi => ?_
  obtain ⟨e, he, _, ht⟩ := h.pl j (List.mem_range.1 hj)
  rw [he, Int.toNat_natCast] at hi
  simp only [inn, Bool.and_eq_true] at hi
  rcases ht with ht | ht
  · rw [ht]; exact hi.1
  · rw [ht]; exact hi.2
theorem Inv.eq {n : Nat} {k : Int} {bars : List BarT} {E : Nat} {S : PebT} (h : Inv n k bars E S) (hb : Bok n bars) (hE : E ≤ bars.length) {V : Int → Bool} (hc : ∀ j : Nat, j < S.2.2.length → V (gI S.2.1 j) = true → V (hop bars S j) = true) : ic (plB bars S) V = S.2.1.countP V := by
  refine Nat.le_antisymm (h.le hb hE V) ?_
  rw [plB_idx, tl_idx, h.tl]
  refine List.countP_mono_left fun j hj hv => ?_
  have hjl := List.mem_range.1 hj
  have h2 := hc j hjl hv
  obtain ⟨_, _, hne, e, he, hel, hsum, hor⟩ := h.hp hb hE hjl
  show inn V (gB bars (gI S.2.2 j).toNat) = true
  rw [he, Int.toNat_natCast]
  simp only [inn, Bool.and_eq_true]
  rcases hor with ho | ho
  · have : gI S.2.1 j = (gB bars e).2 := by omega
    rw [this] at hv
    rw [ho] at h2
    exact ⟨h2, hv⟩
  · have : gI S.2.1 j = (gB bars e).1 := by omega
    rw [this] at hv
    rw [ho] at h2
    exact ⟨hv, h2⟩
/-! ### a search that fails -/
structure CQ (bars : List BarT) (S : PebT) (b : Int) (q : QuT) (i : Nat) : Prop where
  cl : ∀ i' x, i' < i → q[i']? = some x → ∀ j : Nat, j < S.2.2.length → gI S.2.1 j = x.1 → hop bars S j ∈ q.map (·.1)
  z : ∀ x ∈ q, x.2 ≠ -1 → x.1 = b ∨ gI S.1 x.1.toNat = 0
theorem inner_none {bars : List BarT} {S : PebT} {b u : Int} : ∀ (js : List Nat) (q q' : QuT), inner bars S b u js q = (q', none) → (∀ x ∈ q, x.2 ≠ -1 → x.1 = b ∨ gI S.1 x.1.toNat = 0) →
    (∀ (i : Nat) x, q[i]? = some x → q'[i]? = some x) ∧ (∀ j ∈ js, gI S.2.1 j = u → hop bars S j ∈ q'.map (·.1)) ∧ (∀ x ∈ q', x.2 ≠ -1 → x.1 = b ∨ gI S.1 x.1.toNat = 0)
  | [], q, q', h, hz => by
    simp only [inner, Prod.mk.injEq, and_true] at h
    subst h
    exact ⟨fun _ _ h => h, fun j hj => by simp at hj, hz⟩
  | j :: js, q, q', h, hz => by
    unfold inner at h
    split at h
    · next ht =>
      split at h
      · next hs =>
        obtain ⟨h1, h2, h3⟩ := inner_none js q q' h hz
        refine ⟨h1, fun j' hj' ht' => ?_, h3⟩
        rcases List.mem_cons.1 hj' with rfl | hj'
        · obtain ⟨x, hx, hxe⟩ := List.mem_map.1 (seenQ_iff.1 hs)
          obtain ⟨i, hi⟩ := List.getElem?_of_mem hx
          exact List.mem_map.2 ⟨x, List.mem_of_getElem? (h1 i x hi), hxe⟩
        · exact h2 j' hj' ht'
      · next hs =>
        split at h
        · next hor =>
          have hz2 : ∀ x ∈ q ++ [(hop bars S j, (j : Int))], x.2 ≠ -1 → x.1 = b ∨ gI S.1 x.1.toNat = 0 := by
            intro x hx hn
            rcases List.mem_append.1 hx with hx | hx
            · exact hz x hx hn
            · simp at hx; subst hx; exact hor
          obtain ⟨h1, h2, h3⟩ := inner_none js _ q' h hz2
          refine ⟨fun i x hx => h1 i x (by rw [List.getElem?_append_left (lt_of_getElem? hx)]; exact hx), fun j' hj' ht' => ?_, h3⟩
          rcases List.mem_cons.1 hj' with rfl | hj'
          · exact List.mem_map.2 ⟨(hop bars S j', (j' : Int)), List.mem_of_getElem? (h1 q.length _ (by simp)), rfl⟩
          · exact h2 j' hj' ht'
        · cases h
    · next ht =>
      obtain ⟨h1, h2, h3⟩ := inner_none js q q' h hz
      refine ⟨h1, fun j' hj' ht' => ?_, h3⟩
      rcases List.mem_cons.1 hj' with rfl | hj'
      · exact absurd ht' ht
      · exact h2 j' hj' ht'
theorem outer_none {n : Nat} {k : Int} {bars : List BarT} {E : Nat} {S : PebT} {a b : Int} (hI : Inv n k bars E S) (hb : Bok n bars) (hE : E ≤ bars.length) (hn : n ≤ 8) : ∀ (f i : Nat) (q : QuT), f + i = 10 → QI n bars S a q → CQ bars S b q i → outer bars S b f i q = none → ∃ q', QI n bars S a q' ∧ CQ bars S b q' q'.length
  | 0, i, q, hfi, hq, hc, _ => ⟨q, hq, ⟨fun i' x hi' hx => hc.cl i' x (by have := hq.le; omega) hx, hc.z⟩⟩
  | f + 1, i, q, hfi, hq, hc, h => by
    unfold outer at h
    split at h
    · next hx =>
      have hl : q.length ≤ i := List.getElem?_eq_none_iff.1 hx
      exact ⟨q, hq, ⟨fun i' x hi' hx => hc.cl i' x (by omega) hx, hc.z⟩⟩
    · next x hx =>
      have hin := inner_QI (a := a) (b := b) hI hb hE (y := x) (List.range S.2.2.length) hq hx (fun j hj => by simpa using hj)
      split at h
      · cases h
      · next q1 he =>
        rw [he] at hin
        obtain ⟨h1, h2, h3⟩ := inner_none _ _ _ he hc.z
        refine outer_none hI hb hE hn f (i + 1) q1 (by omega) hin.1 ⟨fun i' y hi' hy j hj ht => ?_, h3⟩ h
        rcases Nat.lt_or_ge i' i with hlt | hge
        · obtain ⟨y', hy'⟩ : ∃ y', q[i']? = some y' := ⟨_, List.getElem?_eq_getElem (by have := lt_of_getElem? hx; omega)⟩
          have e := h1 i' y' hy'
          rw [hy] at e
          cases e
          obtain ⟨z, hz, hze⟩ := List.mem_map.1 (hc.cl i' y hlt hy' j hj ht)
          obtain ⟨iz, hiz⟩ := List.getElem?_of_mem hz
          exact List.mem_map.2 ⟨z, List.mem_of_getElem? (h1 iz z hiz), hze⟩
        · have : i' = i := by omega
          subst this
          have e := h1 i' x hx
          rw [hy] at e
          cases e
          exact h2 j (List.mem_range.2 hj) ht
def setQ (q : QuT) (v : Int) : Bool := seenQ q v
/-- the points that a failing search has seen -/
theorem findP_none {n : Nat} {k : Int} {bars : List BarT} {E : Nat} {S : PebT} {a b : Int} (hI : Inv n k bars E S) (hb : Bok n bars) (hE : E ≤ bars.length) (hn : n ≤ 8) (ha : 0 ≤ a ∧ a < n) (h : findP bars a b S = none) :
    ∃ R : Int → Bool, R a = true ∧ (∀ j : Nat, j < S.2.2.length → R (gI S.2.1 j) = true → R (hop bars S j) = true) ∧ ∀ v : Nat, v < n → R v = true → (v : Int) = a ∨ (v : Int) = b ∨ gI S.1 v = 0 := by
  have ho : outer bars S b 10 0 [(a, -1)] = none := by
    unfold findP at h
    split at h
    · assumption
    · cases h
  obtain ⟨q, hq, hc⟩ := outer_none hI hb hE hn 10 0 [(a, -1)] rfl (QI.start ha.1 ha.2) ⟨fun i' x hi' => by omega, fun x hx hne => by simp at hx; subst hx; exact absurd rfl hne⟩ ho
  refine ⟨setQ q, seenQ_iff.2 (List.mem_map.2 ⟨(a, -1), List.mem_of_getElem? hq.hd, rfl⟩), fun j hj hR => ?_, fun v hv hR => ?_⟩
  · obtain ⟨x, hx, hxe⟩ := List.mem_map.1 (seenQ_iff.1 hR)
    obtain ⟨i, hi⟩ := List.getElem?_of_mem hx
    exact seenQ_iff.2 (hc.cl i x (lt_of_getElem? hi) hi j hj hxe.symm)
  · obtain ⟨x, hx, hxe⟩ := List.mem_map.1 (seenQ_iff.1 hR)
    obtain ⟨i, hi⟩ := List.getElem?_of_mem hx
    by_cases h0 : i = 0
    · subst h0
      rw [hq.hd] at hi
      cases hi
      exact .inl hxe.symm
    · obtain ⟨j, i', y, h1, h2, _⟩ := hq.up i x hi h0
      have hne : x.2 ≠ -1 := by rw [h1]; omega
      rcases hc.z x hx hne with h3 | h3
      · exact .inr (.inl (by rw [← hxe]; exact h3))
      · right; right
        have hxe2 : x.1 = (v : Int) := hxe
        rw [hxe2, Int.toNat_natCast] at h3
        exact h3
theorem fs_le_two {n : Nat} {F : List Int} {V : Int → Bool} {a b : Nat} (hab : a ≠ b) (h : ∀ v : Nat, v < n → 0 ≤ gI F v) (hz : ∀ v : Nat, v < n → V v = true → v = a ∨ v = b ∨ gI F v = 0) (ha : 0 ≤ gI F a) (hb : 0 ≤ gI F b) : ∀ m, m ≤ n → fsV F m V ≤ (if a < m then gI F a else 0) + (if b < m then gI F b else 0)
  | 0, _ => by simp [fsV]
  | m + 1, hm => by
    have ih := fs_le_two hab h hz ha hb m (by omega)
    have e : fsV F (m + 1) V = fsV F m V + (if V (m : Int) = true then gI F m else 0) := by
      unfold fsV
      rw [List.range_succ, List.map_append, List.sum_append]
      simp
    rw [e]
    by_cases hv : V (m : Int) = true
    · rw [if_pos hv]
      rcases hz m (by omega) hv with h1 | h1 | h1
      · subst h1
        rw [if_neg (show ¬ m < m by omega)] at ih
        rw [if_pos (show m < m + 1 by omega)]
        by_cases hbm : b < m
        · rw [if_pos hbm] at ih; rw [if_pos (by omega)]; omega
        · rw [if_neg hbm] at ih; rw [if_neg (by omega)]; omega
      · subst h1
        rw [if_neg (show ¬ m < m by omega)] at ih
        rw [if_pos (show m < m + 1 by omega)]
        by_cases ham : a < m
        · rw [if_pos ham] at ih; rw [if_pos (show a < m + 1 by omega)]; omega
        · rw [if_neg ham] at ih; rw [if_neg (show ¬ a < m + 1 by omega)]; omega
      · rw [h1]
        by_cases ham : a < m <;> by_cases hbm : b < m <;> by_cases ham1 : a < m + 1 <;> by_cases hbm1 : b < m + 1 <;> simp only [ham, hbm, ham1, hbm1, if_true, if_false] at ih ⊢ <;> omega
    · rw [if_neg hv]
      by_cases ham : a < m <;> by_cases hbm : b < m <;> by_cases ham1 : a < m + 1 <;> by_cases hbm1 : b < m + 1 <;> simp only [ham, hbm, ham1, hbm1, if_true, if_false] at ih ⊢ <;> omega
theorem Inv.mem {n : Nat} {k : Int} {bars : List BarT} {E : Nat} {S : PebT} (h : Inv n k bars E S) (hE : E ≤ bars.length) : ∀ x ∈ plB bars S, x ∈ bars := by
  intro x hx
  obtain ⟨v, hv, rfl⟩ := List.mem_map.1 hx
  obtain ⟨j, hj⟩ := List.getElem?_of_mem hv
  obtain ⟨e, he, he2, _⟩ := h.pl j (lt_of_getElem? hj)
  have : v = (e : Int) := by
    have : gI S.2.2 j = v := by unfold gI; rw [hj]; rfl
    omega
  rw [this, Int.toNat_natCast]
  unfold gB
  rw [List.getElem?_eq_getElem (show e < bars.length by omega)]
  exact List.getElem_mem _
end Go.Proofs.YtfbmpkdjhhcnpaaGreat

namespace Go.Proofs.YtfbmpkdjhhcnpaaGreat
open Go.RowKit Mtr
set_option maxRecDepth 100000
set_option linter.unusedVariables false
set_option linter.unusedSimpArgs false
/-- gathering that fails ends where both searches fail -/
theorem gather_none {n : Nat} {k want : Int} {bars : List BarT} {E : Nat} {a b : Nat} (hb : Bok n bars) (hE : E ≤ bars.length) (hn : n ≤ 8) (ha : a < n) (hbn : b < n) (hab : a ≠ b) : ∀ (f : Nat) (S : PebT), Inv n k bars E S → (gatherP bars a b want f S).2 = false →
    ∃ S', Inv n k bars E S' ∧ S'.2.2 = S.2.2 ∧ gI S'.1 a + gI S'.1 b < want ∧ findP bars a b S' = none ∧ findP bars b a S' = none
  | 0, S, _, h => by simp [gatherP] at h
  | f + 1, S, hI, h => by
    by_cases hlt : gI S.1 (a : Int).toNat + gI S.1 (b : Int).toNat < want
    · cases hf : findP bars a b S with
      | some S' =>
        rw [gatherP, if_pos hlt] at h
        simp only [hf] at h
        obtain ⟨i1, _, _, i4⟩ := findP_ok hI hb hE hn (a := (a : Int)) (b := (b : Int)) ⟨by omega, by omega⟩ ⟨by omega, by omega⟩ (by omega) hf
        obtain ⟨S9, h1, h2, h3⟩ := gather_none hb hE hn ha hbn hab f S' i1 h
        exact ⟨S9, h1, h2.trans i4, h3⟩
      | none =>
        cases hf2 : findP bars b a S with
        | some S' =>
          rw [gatherP, if_pos hlt] at h
          simp only [hf, hf2] at h
          obtain ⟨i1, _, _, i4⟩ := findP_ok hI hb hE hn (a := (b : Int)) (b := (a : Int)) ⟨by omega, by omega⟩ ⟨by omega, by omega⟩ (by omega) hf2
          obtain ⟨S9, h1, h2, h3⟩ := gather_none hb hE hn ha hbn hab f S' i1 h
          exact ⟨S9, h1, h2.trans i4, h3⟩
        | none =>
          rw [Int.toNat_natCast, Int.toNat_natCast] at hlt
          exact ⟨S, hI, rfl, hlt, hf, hf2⟩
    · rw [gatherP, if_neg hlt] at h
      cases h
/-- two searches that fail: a closed set around both points with few pebbles -/
theorem closed_fail {n : Nat} {k : Int} {bars : List BarT} {E : Nat} {S : PebT} {a b : Nat} (hI : Inv n k bars E S) (hb : Bok n bars) (hE : E ≤ bars.length) (hn : n ≤ 8) (ha : a < n) (hbn : b < n) (hab : a ≠ b) (h1 : findP bars a b S = none) (h2 : findP bars b a S = none) :
    ∃ V : Int → Bool, V a = true ∧ V b = true ∧ k * (sz n V : Nat) ≤ (ic (plB bars S) V : Nat) + (gI S.1 a + gI S.1 b) := by
  obtain ⟨R, r1, r2, r3⟩ := findP_none hI hb hE hn ⟨by omega, by omega⟩ h1
  obtain ⟨Q, q1, q2, q3⟩ := findP_none hI hb hE hn ⟨by omega, by omega⟩ h2
  have hU : ∀ v : Nat, v < n → uni R Q v = true → v = a ∨ v = b ∨ gI S.1 v = 0 := fun v hv h => by
    simp only [uni, Bool.or_eq_true] at h
    rcases h with h | h
    · rcases r3 v hv h with h | h | h
      · exact .inl (by omega)
      · exact .inr (.inl (by omega))
      · exact .inr (.inr h)
    · rcases q3 v hv h with h | h | h
      · exact .inr (.inl (by omega))
      · exact .inl (by omega)
      · exact .inr (.inr h)
  have hf := fs_le_two (V := uni R Q) hab (fun v hv => (hI.fr v hv).1) hU (hI.fr a ha).1 (hI.fr b hbn).1 n (Nat.le_refl _)
  rw [if_pos ha, if_pos hbn] at hf
  have hs := hI.sum hb hE (uni R Q)
  have he := hI.eq hb hE (V := uni R Q) (fun j hj hv => by
    simp only [uni, Bool.or_eq_true] at hv ⊢
    rcases hv with hv | hv
    · exact .inl (r2 j hj hv)
    · exact .inr (q2 j hj hv))
  exact ⟨uni R Q, by simp [uni, r1], by simp [uni, q1], by omega⟩
/-- few bars in each set of points -/
def Ind1 (n : Nat) (I : List E) : Prop := ∀ S, 0 < ic I S → ic I S + 1 ≤ sz n S
theorem Ind1.sub {n : Nat} {I J : List E} (h : Ind1 n J) (hs : I.Sublist J) : Ind1 n I := fun S hS => by
  have h1 := ic_sub hs S
  have h2 := h S (by omega)
  omega
theorem ind1_lay {n : Nat} {bars : List BarT} {E : Nat} {S : PebT} (h : Inv n 1 bars E S) (hb : Bok n bars) (hE : E ≤ bars.length) (hI : Ind1 n (plB bars S)) {e : Nat} (he : e < bars.length) (h4 : 2 ≤ gI S.1 (gB bars e).1.toNat + gI S.1 (gB bars e).2.toNat) : Ind1 n (plB bars S ++ [gB bars e]) := by
  intro V hV
  have hbe := hb e he
  unfold ic at hV ⊢
  rw [List.countP_append, List.countP_cons, List.countP_nil] at hV ⊢
  by_cases hi : inn V (gB bars e) = true
  · rw [if_pos hi] at hV ⊢
    have hle := h.le hb hE V
    have hs := h.sum hb hE V
    simp only [inn, Bool.and_eq_true] at hi
    obtain ⟨x, hx⟩ := Int.eq_ofNat_of_zero_le hbe.1
    obtain ⟨y, hy⟩ := Int.eq_ofNat_of_zero_le (show 0 ≤ (gB bars e).2 by omega)
    rw [hx, hy] at hi h4
    rw [Int.toNat_natCast, Int.toNat_natCast] at h4
    have := fs_two (F := S.1) (V := V) (fun v hv => (h.fr v hv).1) (show x < y by omega) hi.1 hi.2 n (Nat.le_refl _) (by omega)
    unfold ic at hle
    omega
  · rw [if_neg hi] at hV ⊢
    exact hI V hV
theorem gB_take {bars : List BarT} {e : Nat} (he : e < bars.length) : bars.take (e + 1) = bars.take e ++ [gB bars e] := by
  rw [take_succ_of (List.getElem?_eq_getElem he)]
  unfold gB
  rw [List.getElem?_eq_getElem he]; rfl
/-- what the game for (1,1) has placed -/
theorem play1 {n : Nat} {bars : List BarT} (hb : Bok n bars) (hn : n ≤ 8) : ∀ e, e ≤ bars.length →
    (playTo bars 1 (List.replicate n 1, [], []) e).2.2.length ≤ e ∧ Ind1 n (plB bars (playTo bars 1 (List.replicate n 1, [], []) e)) ∧ ((playTo bars 1 (List.replicate n 1, [], []) e).2.2.length = e → plB bars (playTo bars 1 (List.replicate n 1, [], []) e) = bars.take e) ∧ (Ind1 n bars → (playTo bars 1 (List.replicate n 1, [], []) e).2.2.length = e)
  | 0, _ => ⟨Nat.le_refl _, fun V hV => by
      have e0 : ic (plB bars (playTo bars 1 (List.replicate n 1, [], []) 0)) V = 0 := rfl
      omega, fun _ => rfl, fun _ => rfl⟩
  | e + 1, he => by
    obtain ⟨ih0, ih1, ih2, ih3⟩ := play1 hb hn e (by omega)
    have hI := playTo_ok (k := 1) (l := 1) (by omega) hb hn ⟨by omega, by omega⟩ e (by omega)
    have hbe := hb e (by omega)
    obtain ⟨x, hx⟩ := Int.eq_ofNat_of_zero_le hbe.1
    obtain ⟨y, hy⟩ := Int.eq_ofNat_of_zero_le (show 0 ≤ (gB bars e).2 by omega)
    unfold playTo
    generalize playTo bars 1 (List.replicate n 1, [], []) e = S at *
    have eqP : ∀ S' : PebT, S'.2.2 = S.2.2 → plB bars S' = plB bars S := fun S' e => by unfold plB; rw [e]
    have hok := gatherP_ok (want := 2) hb (show e ≤ bars.length by omega) hn (a := (x : Int)) (b := (y : Int)) ⟨by omega, by omega⟩ ⟨by omega, by omega⟩ (by omega) 7 S hI
    cases hG : gatherP bars (x : Int) (y : Int) 2 7 S with
    | mk S' ok =>
      rw [hG] at hok
      obtain ⟨o1, o2, o3⟩ := hok
      dsimp only at o1 o2 o3
      cases ok
      · have hpl : placeP bars 1 S e = none := by
          unfold placeP
          rw [hx, hy]
          show (match gatherP bars (x : Int) (y : Int) (1 + 1) 7 S with | (S', true) => _ | (_, false) => _) = none
          rw [show (1 + 1 : Int) = 2 from rfl, hG]
        rw [hpl]
        show S.2.2.length ≤ e + 1 ∧ Ind1 n (plB bars S) ∧ (S.2.2.length = e + 1 → _) ∧ (Ind1 n bars → S.2.2.length = e + 1)
        refine ⟨by omega, ih1, fun h => by omega, fun hInd => ?_⟩
        exfalso
        obtain ⟨S9, h1, h2, h3, h4, h5⟩ := gather_none hb (show e ≤ bars.length by omega) hn (a := x) (b := y) (by omega) (by omega) (by omega) 7 S hI (by rw [hG])
        obtain ⟨V, va, vb, hv⟩ := closed_fail h1 hb (show e ≤ bars.length by omega) hn (a := x) (b := y) (by omega) (by omega) (by omega) h4 h5
        rw [eqP S9 h2, ih2 (ih3 hInd)] at hv
        have h6 := (hInd.sub (List.take_sublist (e + 1) bars)) V
        rw [gB_take (by omega)] at h6
        unfold ic at h6 hv
        rw [List.countP_append, List.countP_cons, List.countP_nil, if_pos (by simp only [inn, hx, hy, va, vb]; rfl)] at h6
        have := h6 (by omega)
        omega
      · have hpl : placeP bars 1 S e = some (layP S' (if gI S'.1 (gB bars e).1.toNat = 0 then (gB bars e).2 else (gB bars e).1) e) := by
          unfold placeP
          rw [hx, hy]
          show (match gatherP bars (x : Int) (y : Int) (1 + 1) 7 S with | (S', true) => _ | (_, false) => _) = _
          rw [show (1 + 1 : Int) = 2 from rfl, hG]
        rw [hpl]
        have f0 := hI.fr x (by omega)
        have f1 := hI.fr y (by omega)
        have h4 := o3 rfl (by rw [Int.toNat_natCast, Int.toNat_natCast]; push_cast; omega)
        have hnew : plB bars (layP S' (if gI S'.1 (gB bars e).1.toNat = 0 then (gB bars e).2 else (gB bars e).1) e) = plB bars S ++ [gB bars e] := by
          unfold plB layP
          dsimp only
          rw [List.map_append, o2]
          simp
        have hlen : (layP S' (if gI S'.1 (gB bars e).1.toNat = 0 then (gB bars e).2 else (gB bars e).1) e).2.2.length = S.2.2.length + 1 := by
          unfold layP
          dsimp only
          rw [List.length_append, o2]; rfl
        have hind : Ind1 n (plB bars S ++ [gB bars e]) := by
          have := ind1_lay o1 hb (show e ≤ bars.length by omega) (by rw [eqP S' o2]; exact ih1) (show e < bars.length by omega) (by rw [hx, hy]; exact h4)
          rwa [eqP S' o2] at this
        rw [Option.getD_some, hnew, hlen]
        exact ⟨by omega, hind, fun h => by rw [ih2 (by omega), gB_take (by omega)], fun h => by rw [ih3 h]⟩
theorem play1_all {n : Nat} {bars : List BarT} (hb : Bok n bars) (hn : n ≤ 8) : (playP n bars 1 1).2.2.length = bars.length ↔ Ind1 n bars := by
  obtain ⟨h0, h1, h2, h3⟩ := play1 hb hn bars.length (Nat.le_refl _)
  refine ⟨fun h => ?_, h3⟩
  have := h2 h
  rw [List.take_length] at this
  rw [this] at h1
  exact h1
/-! ### forests -/
theorem sz_cnt (n : Nat) (S : Int → Bool) : sz n S = Fo.cnt n fun v => S (v : Int) := by
  unfold sz Fo.cnt
  rw [List.countP_eq_length_filter]
theorem ind1_sp {n : Nat} {l : List BarT} (hr : ∀ x ∈ l, (0 ≤ x.1 ∧ x.1 < n) ∧ (0 ≤ x.2 ∧ x.2 < n)) : Ind1 n l ↔ ∀ U : Nat → Bool, 0 < spU l U → spU l U + 1 ≤ Fo.cnt n U := by
  constructor
  · intro h U hU
    have e1 : ic l (fun v => U v.toNat) = spU l U := rfl
    have := h (fun v => U v.toNat) (by rw [e1]; exact hU)
    rw [e1, sz_cnt] at this
    exact this
  · intro h S hS
    have e1 : ic l S = spU l fun v => S (v : Int) := List.countP_congr fun x hx => by
      have := hr x hx
      show inn S x = true ↔ (S ((x.1.toNat : Nat) : Int) && S ((x.2.toNat : Nat) : Int)) = true
      rw [Int.toNat_of_nonneg this.1.1, Int.toNat_of_nonneg this.2.1]
      exact Iff.rfl
    rw [e1] at hS ⊢
    rw [sz_cnt]
    exact h _ hS
theorem for_ind {n : Nat} {l : List BarT} (hr : ∀ x ∈ l, (0 ≤ x.1 ∧ x.1 < n) ∧ (0 ≤ x.2 ∧ x.2 < n)) : Fo.For n (edL l) ↔ Ind1 n l := by
  rw [ind1_sp hr]
  have hR := edL_rng hr
  constructor
  · intro h U hU
    have hs : (edL (l.filter fun x => U x.1.toNat && U x.2.toNat)).Sublist (edL l) := List.filter_sublist.map _
    obtain ⟨g, hg, h1⟩ := Fo.For.sub hs hR h
    have e1 : (edL (l.filter fun x => U x.1.toNat && U x.2.toNat)).length = spU l U := by
      unfold edL spU
      rw [List.length_map, List.countP_eq_length_filter]
    rw [e1] at h1
    -- ways stay in the set
    have hst : ∀ {v w : Nat}, Fo.Conn (edL (l.filter fun x => U x.1.toNat && U x.2.toNat)) v w → v = w ∨ (U v = true ∧ U w = true) := fun {v w} hc => by
      induction hc with
      | refl v => exact .inl rfl
      | symm _ ih => rcases ih with h | h
                     · exact .inl h.symm
                     · exact .inr ⟨h.2, h.1⟩
      | trans _ _ ih1 ih2 =>
        rcases ih1 with rfl | h
        · exact ih2
        · rcases ih2 with rfl | h2
          · exact .inr h
          · exact .inr ⟨h.1, h2.2⟩
      | @edge a b hab =>
        obtain ⟨x, hx, he⟩ := List.mem_map.1 hab
        have h2 := (List.mem_filter.1 hx).2
        simp only [Bool.and_eq_true] at h2
        unfold eN at he
        cases he
        exact .inr h2
    obtain ⟨x, hx, hxU⟩ := List.countP_pos_iff.1 hU
    simp only [Bool.and_eq_true] at hxU
    have hxr := hr x hx
    have hxn : x.1.toNat < n := by omega
    have hcg : Fo.Conn (edL (l.filter fun x => U x.1.toNat && U x.2.toNat)) x.1.toNat (g x.1.toNat) := hg.conn _ _ hxn (hg.lt _ hxn) (hg.idem _ hxn).symm
    have hgU : U (g x.1.toNat) = true := by
      rcases hst hcg with h | h
      · rw [← h]; exact hxU.1
      · exact h.2
    have h2 : (Fo.cnt n fun i => !U i) + 1 ≤ Fo.fixN n g := Fo.cnt_lt (b := g x.1.toNat) (fun i hi hu => by
      have hc := hg.conn i (g i) hi (hg.lt i hi) (hg.idem i hi).symm
      rcases hst hc with h | h
      · simp [← h]
      · rw [h.1] at hu; exact absurd hu (by decide)) (hg.lt _ hxn) (by rw [hgU]; rfl) (by simpa using hg.idem _ hxn)
    have h3 : Fo.cnt n U + (Fo.cnt n fun i => !U i) = n := by
      clear h1 h2 hg hgU hcg hxn hxr hR h hr
      induction n with
      | zero => rfl
      | succ n ih => rw [Fo.cnt_succ, Fo.cnt_succ]; cases U n <;> simp <;> omega
    omega
  · intro h
    obtain ⟨c, hc, hf⟩ := Fo.nash (n := n) (k := 1) hR fun U hU => by
      rw [spU_cnt] at hU ⊢
      have := h U hU
      omega
    have h0 := hf 0 (by decide)
    have e : Fo.col (edL l).length c 0 = List.range (edL l).length := List.filter_eq_self.2 fun e he => by
      have := hc e (List.mem_range.1 he)
      simp; omega
    rw [e] at h0
    have e2 : Fo.im (edL l) (List.range (edL l).length) = edL l := by
      unfold Fo.im Fo.ed
      refine List.ext_getElem? fun i => ?_
      rw [List.getElem?_map]
      by_cases hi : i < (edL l).length
      · rw [List.getElem?_range hi, List.getElem?_eq_getElem hi]
        simp [List.getElem?_eq_getElem hi]
      · rw [List.getElem?_eq_none (by simpa using hi), List.getElem?_eq_none (by omega)]; rfl
    rwa [e2] at h0
/-- the bars of a set -/
def barsS (l : List BarT) (s : List Int) : List BarT := s.map fun e => gB l e.toNat
theorem edL_bars (l : List BarT) (s : List Int) : edL (barsS l s) = setE l s := by
  unfold edL barsS setE gB
  rw [List.map_map]
  rfl
theorem barsS_rng {P : Nat} {l : List BarT} {s : List Int} (h : setB ((P : Int), l) s = true) : Bok P (barsS l s) ∧ ∀ x ∈ barsS l s, (0 ≤ x.1 ∧ x.1 < P) ∧ (0 ≤ x.2 ∧ x.2 < P) := by
  obtain ⟨hg, hs⟩ := setB_facts h
  have key : ∀ x ∈ barsS l s, 0 ≤ x.1 ∧ x.1 < x.2 ∧ x.2 < P := fun x hx => by
    obtain ⟨e, he, rfl⟩ := List.mem_map.1 hx
    obtain ⟨k, hk⟩ := List.getElem?_of_mem he
    have h1 := hs k e hk
    unfold gB
    rw [List.getElem?_eq_getElem (show e.toNat < l.length by omega)]
    exact isGraphB_bar hg (List.getElem?_eq_getElem (show e.toNat < l.length by omega))
  refine ⟨fun e he => ?_, fun x hx => by have := key x hx; omega⟩
  unfold gB
  rw [List.getElem?_eq_getElem he]
  exact key _ (List.getElem_mem he)
theorem forest_play {P : Nat} {l : List BarT} {s : List Int} (h : setB ((P : Int), l) s = true) (hP : P ≤ 8) : frstB ((P : Int), l) s = decide ((playP P (barsS l s) 1 1).2.2.length = s.length) := by
  obtain ⟨hb, hr⟩ := barsS_rng h
  have e1 : (barsS l s).length = s.length := by unfold barsS; rw [List.length_map]
  unfold frstB
  rw [h, Bool.true_and, Bool.eq_iff_iff, decide_eq_true_iff, Fo.For.iff (setE_inR h), ← edL_bars, for_ind hr, ← e1, play1_all hb hP]
end Go.Proofs.YtfbmpkdjhhcnpaaGreat

namespace Go.Proofs.YtfbmpkdjhhcnpaaGreat
open Go.RowKit
set_option maxRecDepth 100000
set_option linter.unusedVariables false
set_option linter.unusedSimpArgs false
set_option maxHeartbeats 8000000 in
theorem specConn_at (W : World) (p : Int) (a : Option Addr) (cap : Nat) (l : List BarT) (h : BarsAt W a l.length l) (hs : l.length ≤ 1048576) : Calls Tryz.prog 17 #[.agg #[.int .i64 p, .slice a l.length cap]] W fun e w' => e = .returned (.bool (connB (p, l))) ∧ Below W.heap.size W w' := by
  cases hg : isGraphB (p, l)
  · have he : connB (p, l) = false := by unfold connB; rw [hg]; rfl
    have HE := Lib.hid he
    have hwd := @Wd.cells
    have HGr : Hid (IsGraph W (.agg #[.int .i64 p, .slice a l.length cap]) (p, l)) := Lib.hid ⟨a, cap, rfl, h⟩
    have H1 := Lib.hid h
    clear h
    have hsz : szGraph (p, l) ≤ 1048576 := hs
    have hsz2 : szGraph (p, l) ≤ 1099511627776 := Nat.le_trans hsz (by decide)
    have B : Below W.heap.size W (W.alloc (.cells #[.int .i64 p, .slice a l.length cap] 26)) := (Below.refl _ _).alloc (Nat.le_refl _) _
    have BG : Hid (BoxGr (W.alloc (.cells #[.int .i64 p, .slice a l.length cap] 26)) W.heap.size p a l.length cap) := Lib.hid (BoxGr.at rfl)
    have HIG : Hid (∀ w9, Below W.heap.size W w9 → Calls Tryz.prog 51 #[.agg #[.int .i64 p, .slice a l.length cap]] w9 fun e w' => e = .returned (.bool false) ∧ Below w9.heap.size w9 w') := Lib.hid fun w9 b => by
      have := specIsGraph_at w9 p a cap l (H1.out.below b) (by omega)
      rw [hg] at this
      exact this
    clear hg he
    go_enter Tryz.func17, Tryz.ntmps17
    go_wp2_with fail
    generalize (W.alloc (.cells #[.int .i64 p, .slice a l.length cap] 26)) = u at *
    obtain ⟨zBG, fBG0, fBG1⟩ := BG.out
    go_wp2_with fail
    refine wp_region_wd (by kernel_rfl) (by kernel_rfl) ?_
    repeat (go_big_quiet_step ((first | (go_at_call 51; exact Calls.wd_of (HIG.out _ (B.step (Wd.h _)))))))
    refine wpQuiet_nil ?_
    intro n1
    have B2 := B.step n1.h
    go_wp2_with fail
    go_ret
    rw [HE.out]
    exact ⟨rfl, B2⟩
  · have he : connB (p, l) = decide (rchN p.toNat l = p.toNat) := by unfold connB; rw [hg, Bool.true_and]
    have HE := Lib.hid he
    have hb := isGraphB_bd hg
    have hwd := @Wd.cells
    have HGr : Hid (IsGraph W (.agg #[.int .i64 p, .slice a l.length cap]) (p, l)) := Lib.hid ⟨a, cap, rfl, h⟩
    have H1 := Lib.hid h
    clear h
    have hsz : szGraph (p, l) ≤ 1048576 := hs
    have hsz2 : szGraph (p, l) ≤ 1099511627776 := Nat.le_trans hsz (by decide)
    have B : Below W.heap.size W (W.alloc (.cells #[.int .i64 p, .slice a l.length cap] 26)) := (Below.refl _ _).alloc (Nat.le_refl _) _
    have BG : Hid (BoxGr (W.alloc (.cells #[.int .i64 p, .slice a l.length cap] 26)) W.heap.size p a l.length cap) := Lib.hid (BoxGr.at rfl)
    have HIG : Hid (∀ w9, Below W.heap.size W w9 → Calls Tryz.prog 51 #[.agg #[.int .i64 p, .slice a l.length cap]] w9 fun e w' => e = .returned (.bool true) ∧ Below w9.heap.size w9 w') := Lib.hid fun w9 b => by
      have := specIsGraph_at w9 p a cap l (H1.out.below b) (by omega)
      rw [hg] at this
      exact this
    have HRC : Hid (∀ w9, Below W.heap.size W w9 → Calls Tryz.prog 66 #[.agg #[.int .i64 p, .slice a l.length cap], .int .i64 0] w9 fun e w' => ∃ v xs, e = .returned v ∧ OwnInts w' w9.heap.size v xs ∧ xs.length = rchN p.toNat l ∧ Below w9.heap.size w9 w') := Lib.hid fun w9 b => specReach_at w9 p a cap l (H1.out.below b) (by omega) hg
    clear hg he
    go_enter Tryz.func17, Tryz.ntmps17
    go_wp2_with fail
    generalize (W.alloc (.cells #[.int .i64 p, .slice a l.length cap] 26)) = u at *
    obtain ⟨zBG, fBG0, fBG1⟩ := BG.out
    go_wp2_with fail
    clear zBG fBG0 fBG1
    have BD := Lib.hid (B.step (show Below u.heap.size u u.drew from (Below.refl _ _).drew))
    have GD := Lib.hid (BG.out.below (show Below u.heap.size u u.drew from (Below.refl _ _).drew))
    have s0 : u.drew.cell? ⟨W.heap.size, 0, none⟩ = some (.int .i64 p) ∧ u.drew.cell? ⟨W.heap.size, 1, none⟩ = some (.slice a l.length cap) ∧ True := ⟨GD.out.2.1, GD.out.2.2, trivial⟩
    refine wp_regionZ (fun w9 => w9.cell? ⟨W.heap.size, 0, none⟩ = some (.int .i64 p) ∧ w9.cell? ⟨W.heap.size, 1, none⟩ = some (.slice a l.length cap) ∧ True) 10 (by kernel_rfl) ?_
    clear B BG
    generalize u.drew = wd at *
    refine wpAnyZ_takeC (i := 0) (v := ?_) [10] rfl (by kernel_rfl) (by kernel_rfl) (by kernel_rfl) (by kernel_rfl) (by kernel_rfl) (by kernel_rfl) (fun _ _ _ h => h) (s0) (by rfl) ?_ ?_
    rotate_left
    · intro x hx; obtain ⟨u1, u2, u3⟩ := hx; go_simp; try (with_reducible rfl)
    try simp only [Act.put, List.setIfInBounds_toArray, List.set_cons_zero, List.set_cons_succ, List.getElem_toArray, List.getElem_cons_zero, List.getElem_cons_succ]
    refine wpAnyZ_step (i := 1) (by kernel_rfl) rfl (by rfl) ?_
    intro KK hKK
    go_simp
    go_at_call 51
    refine (HIG.out wd BD.out).mono ?_
    rintro e w2 ⟨rfl, b2⟩
    replace BD := Lib.hid (BD.out.step b2)
    replace GD := Lib.hid (GD.out.below b2)
    clear b2 s0
    have s2 : w2.cell? ⟨W.heap.size, 0, none⟩ = some (.int .i64 p) ∧ w2.cell? ⟨W.heap.size, 1, none⟩ = some (.slice a l.length cap) ∧ True := ⟨GD.out.2.1, GD.out.2.2, trivial⟩
    go_wp2_with fail
    refine hKK.out _ _ (.inr s2) ?_
    clear hKK KK
    try simp only [Act.put, List.setIfInBounds_toArray, List.set_cons_zero, List.set_cons_succ, List.getElem_toArray, List.getElem_cons_zero, List.getElem_cons_succ]
    refine wpAnyZ_takeC (i := 2) (v := ?_) [10] rfl (by kernel_rfl) (by kernel_rfl) (by kernel_rfl) (by kernel_rfl) (by kernel_rfl) (by kernel_rfl) (fun _ _ _ h => h) (s2) (by rfl) ?_ ?_
    rotate_left
    · intro x hx; obtain ⟨u1, u2, u3⟩ := hx; go_simp; try (with_reducible rfl)
    try simp only [Act.put, List.setIfInBounds_toArray, List.set_cons_zero, List.set_cons_succ, List.getElem_toArray, List.getElem_cons_zero, List.getElem_cons_succ]
    refine wpAnyZ_takeC (i := 3) (v := ?_) [10] rfl (by kernel_rfl) (by kernel_rfl) (by kernel_rfl) (by kernel_rfl) (by kernel_rfl) (by kernel_rfl) (fun _ _ _ h => h) (s2) (by rfl) ?_ ?_
    rotate_left
    · intro x hx; obtain ⟨u1, u2, u3⟩ := hx; go_simp; try (with_reducible rfl)
    try simp only [Act.put, List.setIfInBounds_toArray, List.set_cons_zero, List.set_cons_succ, List.getElem_toArray, List.getElem_cons_zero, List.getElem_cons_succ]
    refine wpAnyZ_takeC (i := 6) (v := ?_) [10] rfl (by kernel_rfl) (by kernel_rfl) (by kernel_rfl) (by kernel_rfl) (by kernel_rfl) (by kernel_rfl) (fun _ _ _ h => h) (s2) (by rfl) ?_ ?_
    rotate_left
    · intro x hx; obtain ⟨u1, u2, u3⟩ := hx; go_simp; try (with_reducible rfl)
    try simp only [Act.put, List.setIfInBounds_toArray, List.set_cons_zero, List.set_cons_succ, List.getElem_toArray, List.getElem_cons_zero, List.getElem_cons_succ]
    refine wpAnyZ_takeC (i := 7) (v := ?_) [10] rfl (by kernel_rfl) (by kernel_rfl) (by kernel_rfl) (by kernel_rfl) (by kernel_rfl) (by kernel_rfl) (fun _ _ _ h => h) (s2) (by rfl) ?_ ?_
    rotate_left
    · intro x hx; obtain ⟨u1, u2, u3⟩ := hx; go_simp; try (with_reducible rfl)
    try simp only [Act.put, List.setIfInBounds_toArray, List.set_cons_zero, List.set_cons_succ, List.getElem_toArray, List.getElem_cons_zero, List.getElem_cons_succ]
    refine wpAnyZ_step (i := 4) (by kernel_rfl) rfl (by rfl) ?_
    intro KK hKK
    go_simp
    go_at_call 66
    refine (HRC.out w2 BD.out).mono ?_
    rintro e w3 ⟨v, xs, rfl, ho, hxl, b3⟩
    obtain ⟨av, cv, rfl, -⟩ := ho.form
    replace BD := Lib.hid (BD.out.step b3)
    replace GD := Lib.hid (GD.out.below b3)
    have s3 : w3.cell? ⟨W.heap.size, 0, none⟩ = some (.int .i64 p) ∧ w3.cell? ⟨W.heap.size, 1, none⟩ = some (.slice a l.length cap) ∧ True := ⟨GD.out.2.1, GD.out.2.2, trivial⟩
    have HB9 : Hid (((xs.length : Int) == p) = connB (p, l)) := Lib.hid (by
      rw [HE.out, ← hxl, Bool.eq_iff_iff, beq_iff_eq, decide_eq_true_iff]
      omega)
    clear ho hxl b3 s2
    go_wp2_with fail
    refine hKK.out _ _ (.inr s3) ?_
    clear hKK KK
    try simp only [Act.put, List.setIfInBounds_toArray, List.set_cons_zero, List.set_cons_succ, List.getElem_toArray, List.getElem_cons_zero, List.getElem_cons_succ]
    refine wpAnyZ_takeC (i := 5) (v := ?_) [10] rfl (by kernel_rfl) (by kernel_rfl) (by kernel_rfl) (by kernel_rfl) (by kernel_rfl) (by kernel_rfl) (fun _ _ _ h => h) (s3) (by rfl) ?_ ?_
    rotate_left
    · intro x hx; obtain ⟨u1, u2, u3⟩ := hx; go_simp; try (with_reducible rfl)
    try simp only [Act.put, List.setIfInBounds_toArray, List.set_cons_zero, List.set_cons_succ, List.getElem_toArray, List.getElem_cons_zero, List.getElem_cons_succ]
    refine wpAnyZ_takeC (i := 8) (v := ?_) [10] rfl (by kernel_rfl) (by kernel_rfl) (by kernel_rfl) (by kernel_rfl) (by kernel_rfl) (by kernel_rfl) (fun _ _ _ h => h) (s3) (by rfl) ?_ ?_
    rotate_left
    · intro x hx; obtain ⟨u1, u2, u3⟩ := hx; go_simp; try (with_reducible rfl)
    try simp only [Act.put, List.setIfInBounds_toArray, List.set_cons_zero, List.set_cons_succ, List.getElem_toArray, List.getElem_cons_zero, List.getElem_cons_succ]
    refine wpAnyZ_takeC (i := 9) (v := ?_) [10] rfl (by kernel_rfl) (by kernel_rfl) (by kernel_rfl) (by kernel_rfl) (by kernel_rfl) (by kernel_rfl) (fun _ _ _ h => h) (s3) (by rfl) ?_ ?_
    rotate_left
    · intro x hx; obtain ⟨u1, u2, u3⟩ := hx; go_simp; try (with_reducible rfl)
    try simp only [Act.put, List.setIfInBounds_toArray, List.set_cons_zero, List.set_cons_succ, List.getElem_toArray, List.getElem_cons_zero, List.getElem_cons_succ]
    refine wpAnyZ_step (i := 10) (by kernel_rfl) rfl (by rfl) ?_
    intro KK hKK
    go_simp
    refine hKK.out _ _ (.inl (by kernel_rfl)) ?_
    clear hKK KK
    try simp only [Act.put, List.setIfInBounds_toArray, List.set_cons_zero, List.set_cons_succ, List.getElem_toArray, List.getElem_cons_zero, List.getElem_cons_succ]
    refine wpAnyZ_done (by kernel_rfl) ?_ _
    go_wp2_with fail
    go_ret
    exact ⟨congrArg (fun b => Ending.returned (.bool b)) HB9.out, BD.out⟩
theorem keepTo_sub (l : List BarT) (s : List Int) : ∀ k, (keepTo l s k).Sublist (l.take k)
  | 0 => List.Sublist.slnil
  | k + 1 => by
    have ih := keepTo_sub l s k
    unfold keepTo
    by_cases hk : k < l.length
    · rw [take_succ_of (List.getElem?_eq_getElem hk)]
      refine ih.append ?_
      split
      · rw [List.getElem?_eq_getElem hk]; exact List.Sublist.refl _
      · exact List.nil_sublist _
    · have e : l[k]? = none := List.getElem?_eq_none (by omega)
      rw [e]
      have e2 : (if (k : Int) ∈ s then (none : Option BarT).toList else []) = [] := by split <;> rfl
      rw [e2, List.append_nil, List.take_of_length_le (by omega)]
      rw [List.take_of_length_le (by omega)] at ih
      exact ih
theorem keepL_sub (l : List BarT) (s : List Int) : (keepL l s).Sublist l := by
  have := keepTo_sub l s l.length
  rwa [List.take_length] at this
/-- a graph of some bars is built: the graph's box at W's end, the result's box, the first block, the new graph's box -/
structure OnS (W w : World) (p : Int) (a : Option Addr) (m cap : Nat) (vb : Value) (out : List BarT) : Prop where
  bl : Below W.heap.size W w
  bg : BoxGr w W.heap.size p a m cap
  rz : Zer2 w (W.heap.size + 1)
  og : OutG (W.heap.size + 2) w (W.heap.size + 3) p vb out
theorem OnS.below {W w w' : World} {p : Int} {a : Option Addr} {m cap : Nat} {vb : Value} {out : List BarT} (h : OnS W w p a m cap vb out) (hb : Below w.heap.size w w') : OnS W w' p a m cap vb out :=
  ⟨h.bl.step hb, h.bg.below hb, h.rz.below hb, h.og.below hb⟩
theorem OnS.app {W w w' : World} {p : Int} {a : Option Addr} {m cap : Nat} {vb v' : Value} {out out' : List BarT} (h : OnS W w p a m cap vb out) (ho : OwnBars w' (W.heap.size + 2) v' out') (hk : Kept (fun k => some k = vb.ownBlock) w w') (ha : v'.ownBlock = vb.ownBlock ∨ ∀ b, v'.ownBlock = some b → w.heap.size ≤ b) : OnS W (w'.setCell ⟨W.heap.size + 3, 1, none⟩ v') p a m cap v' out' := by
  have nlow : ∀ g, g < W.heap.size + 2 → ¬ some g = vb.ownBlock := fun g hg e => by have := (h.og.ob.lt g e.symm).1; omega
  have ks : Kept (fun k => k = W.heap.size + 3) w' (w'.setCell ⟨W.heap.size + 3, 1, none⟩ v') := setKept
  exact ⟨(h.bl.trans (hk.below h.bl.size fun g hg e => nlow g (by omega) e)).setCell (p := ⟨W.heap.size + 3, 1, none⟩) (by simp) v', (h.bg.kept hk (nlow _ (by omega))).kept ks (by omega), (h.rz.kept hk (nlow _ (by omega))).kept ks (by omega), h.og.app ho hk ha⟩
set_option maxHeartbeats 8000000 in
theorem specOnly_at (W : World) (p : Int) (a : Option Addr) (cap : Nat) (l : List BarT) (h : BarsAt W a l.length l) (hs : l.length ≤ 1048576) (va : Option Addr) (n vcap : Nat) (s : List Int) (hv : IntsAt W va n s) (hvn : n ≤ 1048576) :
    Calls Tryz.prog 113 #[.agg #[.int .i64 p, .slice a l.length cap], .slice va n vcap] W (RetGraph W (p, keepL l s)) := by
  have hwd := @Wd.cells
  have HGr : Hid (IsGraph W (.agg #[.int .i64 p, .slice a l.length cap]) (p, l)) := Lib.hid ⟨a, cap, rfl, h⟩
  have H1 := Lib.hid h
  clear h
  have hsz : szGraph (p, l) ≤ 1048576 := hs
  have hsz2 : szGraph (p, l) ≤ 1099511627776 := Nat.le_trans hsz (by decide)
  have B : Below W.heap.size W (W.alloc (.cells #[.int .i64 p, .slice a l.length cap] 26)) := (Below.refl _ _).alloc (Nat.le_refl _) _
  have BG : Hid (BoxGr (W.alloc (.cells #[.int .i64 p, .slice a l.length cap] 26)) W.heap.size p a l.length cap) := Lib.hid (BoxGr.at rfl)
  have HV := Lib.hid hv
  have b1 := belAl (W.alloc (.cells #[.int .i64 p, .slice a l.length cap] 26)) (.cells #[.int .i64 0, .slice none 0 0] 26)
  have HZ0 := Zer2.at (W.alloc (.cells #[.int .i64 p, .slice a l.length cap] 26)) 26
  rw [World.size_alloc] at HZ0
  have BG1 := BG.out.below b1
  have B1 := B.step b1
  have hs1 : ((W.alloc (.cells #[.int .i64 p, .slice a l.length cap] 26)).alloc (.cells #[.int .i64 0, .slice none 0 0] 26)).heap.size = W.heap.size + 2 := by simp
  clear B BG hv
  go_enter Tryz.func113, Tryz.ntmps113
  go_upto_region 1 with (fail)
  have HZ := Lib.hid HZ0
  replace BG := Lib.hid BG1
  have HB1 := Lib.hid B1
  clear HZ0 BG1 B1 b1
  generalize ((W.alloc (.cells #[.int .i64 p, .slice a l.length cap] 26)).alloc (.cells #[.int .i64 0, .slice none 0 0] 26)) = u at *
  have b2 := belAl u (.cells #[] 70)
  have hob := OwnBars.made u (W.heap.size + 2) (by omega)
  have b3 := belAl (u.alloc (.cells #[] 70)) (.cells #[.int .i64 p, .slice (some ⟨W.heap.size + 2, 0, none⟩) 0 0] 26)
  have hs2 : (u.alloc (.cells #[] 70)).heap.size = W.heap.size + 3 := by simp; omega
  have n0 := World.cell?_alloc_new (u.alloc (.cells #[] 70)) #[.int .i64 p, .slice (some ⟨W.heap.size + 2, 0, none⟩) 0 0] 26 0
  have n1 := World.cell?_alloc_new (u.alloc (.cells #[] 70)) #[.int .i64 p, .slice (some ⟨W.heap.size + 2, 0, none⟩) 0 0] 26 1
  have n2 := World.frozen?_alloc_new (u.alloc (.cells #[] 70)) #[.int .i64 p, .slice (some ⟨W.heap.size + 2, 0, none⟩) 0 0] 26 1
  rw [hs2] at n0 n1 n2
  rw [hs1] at hob
  have OS : Hid (OnS W ((u.alloc (.cells #[] 70)).alloc (.cells #[.int .i64 p, .slice (some ⟨W.heap.size + 2, 0, none⟩) 0 0] 26)) p a l.length cap (.slice (some ⟨W.heap.size + 2, 0, none⟩) 0 0) []) := Lib.hid
    ⟨(HB1.out.step b2).step b3, (BG.out.below b2).below b3, (HZ.out.below b2).below b3, ⟨by simpa using n0, by simpa using n1, by simpa using n2, OwnBars.below hob b3, fun e => by have : W.heap.size + 2 = W.heap.size + 3 := Option.some.inj e; omega, by omega, by simp; omega⟩⟩
  have hsu : u.heap.size = W.heap.size + 2 := hs1
  clear n0 n1 n2 hob b2 b3 HZ HB1 hs1
  obtain ⟨zBG, fBG0, fBG1⟩ := BG.out
  go_wp2_with fail
  clear zBG fBG0 fBG1
  clear hsu hs2 BG
  generalize ((u.alloc (.cells #[] 70)).alloc (.cells #[.int .i64 p, .slice (some ⟨W.heap.size + 2, 0, none⟩) 0 0] 26)) = w1 at *
  obtain ⟨gb, hgb⟩ : ∃ q, q = W.heap.size + 3 := ⟨_, rfl⟩
  go_loopw [6] (fun i w9 => ∃ (k : Nat) (vb : Value), k ≤ l.length ∧ i = .int .i64 k ∧ OnS W w9 p a l.length cap vb (keepTo l s k)) (fun i _ => l.length - (intOf i).toNat)
  case atStart => exact ⟨0, _, Nat.zero_le _, rfl, OS.out⟩
  case round =>
    clear OS hgb
    obtain ⟨k, vb, hk, rfl, hos⟩ := hrel
    have OS := Lib.hid hos
    clear hos
    obtain ⟨av, cv, rfl, -⟩ := OS.out.og.ob.form
    obtain ⟨zBG, fBG0, fBG1⟩ := OS.out.bg
    by_cases hlt : k < l.length
    · have hki : (k : Int) < (l.length : Int) := by omega
      have hk0 : (0 : Int) ≤ (k : Int) := by omega
      have HH := Lib.hid (l2Has_at wr va n vcap s (HV.out.below OS.out.bl) (by omega) (k : Int))
      have HKL := Lib.hid (keepTo_len l s k)
      go_wp2_with fail
      clear zBG fBG0 fBG1
      refine HH.out.mono ?_
      rintro e w2 ⟨rfl, hw2⟩
      obtain rfl : wr = w2 := hw2
      by_cases hin : (k : Int) ∈ s
      · rw [decide_eq_true hin]
        obtain ⟨bb, off, ⟨x1, x2⟩, rfl, hbl, hx, hc0, hc1⟩ := H1.out.2 k hlt
        dsimp only at hc0 hc1
        have HKS : Hid (keepTo l s (k + 1) = keepTo l s k ++ [(x1, x2)]) := Lib.hid (by
          show keepTo l s k ++ _ = _
          rw [if_pos hin, hx]; rfl)
        obtain ⟨K, hK⟩ : ∃ K, K = keepTo l s k := ⟨_, rfl⟩
        rw [← hK] at OS HKL HKS
        try rw [← hK]
        clear hK hx hin
        go_wp2_with fail
        have FD := Lib.hid (OS.out.below (w' := wr.drew) (Below.refl _ _).drew)
        have s0 : wr.drew.cell? ⟨W.heap.size + 3, 1, none⟩ = some (.slice av K.length cv) ∧ wr.drew.cell? ⟨W.heap.size, 1, none⟩ = some (.slice (some ⟨bb, off, none⟩) l.length cap) ∧ wr.drew.cell? ⟨bb, off + k * 2, none⟩ = some (.int .i64 x1) ∧ wr.drew.cell? ⟨bb, off + k * 2 + 1, none⟩ = some (.int .i64 x2) ∧ True := ⟨FD.out.og.c1, FD.out.bg.2.2, (FD.out.bl.cell (p := ⟨bb, off + k * 2, none⟩) hbl).trans hc0, (FD.out.bl.cell (p := ⟨bb, off + k * 2 + 1, none⟩) hbl).trans hc1, trivial⟩
        refine wp_regionZ (fun w9 => w9.cell? ⟨W.heap.size + 3, 1, none⟩ = some (.slice av K.length cv) ∧ w9.cell? ⟨W.heap.size, 1, none⟩ = some (.slice (some ⟨bb, off, none⟩) l.length cap) ∧ w9.cell? ⟨bb, off + k * 2, none⟩ = some (.int .i64 x1) ∧ w9.cell? ⟨bb, off + k * 2 + 1, none⟩ = some (.int .i64 x2) ∧ True) 10 (by kernel_rfl) ?_
        clear OS
        generalize wr.drew = wd at *
        refine wpAnyZ_takeC (i := 0) (v := ?_) [10] rfl (by kernel_rfl) (by kernel_rfl) (by kernel_rfl) (by kernel_rfl) (by kernel_rfl) (by kernel_rfl) (fun _ _ _ h => h) (s0) (by rfl) ?_ ?_
        rotate_left
        · intro x hx; obtain ⟨u1, u2, u3, u4, u5⟩ := hx; go_simp; try (with_reducible rfl)
        try simp only [Act.put, List.setIfInBounds_toArray, List.set_cons_zero, List.set_cons_succ, List.getElem_toArray, List.getElem_cons_zero, List.getElem_cons_succ]
        refine wpAnyZ_takeC (i := 1) (v := ?_) [10] rfl (by kernel_rfl) (by kernel_rfl) (by kernel_rfl) (by kernel_rfl) (by kernel_rfl) (by kernel_rfl) (fun _ _ _ h => h) (s0) (by rfl) ?_ ?_
        rotate_left
        · intro x hx; obtain ⟨u1, u2, u3, u4, u5⟩ := hx; go_simp; try (with_reducible rfl)
        try simp only [Act.put, List.setIfInBounds_toArray, List.set_cons_zero, List.set_cons_succ, List.getElem_toArray, List.getElem_cons_zero, List.getElem_cons_succ]
        refine wpAnyZ_takeC (i := 2) (v := ?_) [10] rfl (by kernel_rfl) (by kernel_rfl) (by kernel_rfl) (by kernel_rfl) (by kernel_rfl) (by kernel_rfl) (fun _ _ _ h => h) (s0) (by rfl) ?_ ?_
        rotate_left
        · intro x hx; obtain ⟨u1, u2, u3, u4, u5⟩ := hx; go_simp; try (with_reducible rfl)
        try simp only [Act.put, List.setIfInBounds_toArray, List.set_cons_zero, List.set_cons_succ, List.getElem_toArray, List.getElem_cons_zero, List.getElem_cons_succ]
        refine wpAnyZ_takeC (i := 3) (v := ?_) [10] rfl (by kernel_rfl) (by kernel_rfl) (by kernel_rfl) (by kernel_rfl) (by kernel_rfl) (by kernel_rfl) (fun _ _ _ h => h) (s0) (by rfl) ?_ ?_
        rotate_left
        · intro x hx; obtain ⟨u1, u2, u3, u4, u5⟩ := hx; go_simp; try (with_reducible rfl)
        try simp only [Act.put, List.setIfInBounds_toArray, List.set_cons_zero, List.set_cons_succ, List.getElem_toArray, List.getElem_cons_zero, List.getElem_cons_succ]
        refine wpAnyZ_takeC (i := 4) (v := ?_) [10] rfl (by kernel_rfl) (by kernel_rfl) (by kernel_rfl) (by kernel_rfl) (by kernel_rfl) (by kernel_rfl) (fun _ _ _ h => h) (s0) (by rfl) ?_ ?_
        rotate_left
        · intro x hx; obtain ⟨u1, u2, u3, u4, u5⟩ := hx; go_simp; try (with_reducible rfl)
        try simp only [Act.put, List.setIfInBounds_toArray, List.set_cons_zero, List.set_cons_succ, List.getElem_toArray, List.getElem_cons_zero, List.getElem_cons_succ]
        refine wpAnyZ_takeC (i := 5) (v := ?_) [10] rfl (by kernel_rfl) (by kernel_rfl) (by kernel_rfl) (by kernel_rfl) (by kernel_rfl) (by kernel_rfl) (fun _ _ _ h => h) (s0) (by rfl) ?_ ?_
        rotate_left
        · intro x hx; obtain ⟨u1, u2, u3, u4, u5⟩ := hx; go_simp; try (with_reducible rfl)
        try simp only [Act.put, List.setIfInBounds_toArray, List.set_cons_zero, List.set_cons_succ, List.getElem_toArray, List.getElem_cons_zero, List.getElem_cons_succ]
        refine wpAnyZ_takeC (i := 6) (v := ?_) [10] rfl (by kernel_rfl) (by kernel_rfl) (by kernel_rfl) (by kernel_rfl) (by kernel_rfl) (by kernel_rfl) (fun _ _ _ h => h) (s0) (by rfl) ?_ ?_
        rotate_left
        · intro x hx; obtain ⟨u1, u2, u3, u4, u5⟩ := hx; go_simp; try (with_reducible rfl)
        try simp only [Act.put, List.setIfInBounds_toArray, List.set_cons_zero, List.set_cons_succ, List.getElem_toArray, List.getElem_cons_zero, List.getElem_cons_succ]
        have bl := belAl wd (.cells #[.int .i64 x1, .int .i64 x2] 70)
        have F8 := Lib.hid (FD.out.below bl)
        have HLI := Lib.hid (litBarT wd x1 x2)
        have s8 : (wd.alloc (.cells #[.int .i64 x1, .int .i64 x2] 70)).cell? ⟨W.heap.size + 3, 1, none⟩ = some (.slice av K.length cv) ∧ (wd.alloc (.cells #[.int .i64 x1, .int .i64 x2] 70)).cell? ⟨W.heap.size, 1, none⟩ = some (.slice (some ⟨bb, off, none⟩) l.length cap) ∧ (wd.alloc (.cells #[.int .i64 x1, .int .i64 x2] 70)).cell? ⟨bb, off + k * 2, none⟩ = some (.int .i64 x1) ∧ (wd.alloc (.cells #[.int .i64 x1, .int .i64 x2] 70)).cell? ⟨bb, off + k * 2 + 1, none⟩ = some (.int .i64 x2) ∧ True := ⟨F8.out.og.c1, F8.out.bg.2.2, (F8.out.bl.cell (p := ⟨bb, off + k * 2, none⟩) hbl).trans hc0, (F8.out.bl.cell (p := ⟨bb, off + k * 2 + 1, none⟩) hbl).trans hc1, trivial⟩
        clear bl FD s0
        refine wpAnyZ_step (i := 7) (by kernel_rfl) rfl (by rfl) ?_
        intro KK hKK
        go_simp
        refine hKK.out _ _ (.inr s8) ?_
        clear hKK KK
        try simp only [Act.put, List.setIfInBounds_toArray, List.set_cons_zero, List.set_cons_succ, List.getElem_toArray, List.getElem_cons_zero, List.getElem_cons_succ]
        have hgt8 := F8.out.og.hi
        have hkl := HKL.out
        refine wpAnyZ_step (i := 8) (by kernel_rfl) rfl (by rfl) ?_
        intro KK hKK
        refine stepAppBars (by rfl) _ _ (by rfl) (by rfl) F8.out.og.ob (by rfl) HLI.out (by omega) (by omega) ?_
        intro v9 w9 h9 k9 a9
        obtain ⟨aw, cw, rfl, -⟩ := h9.form
        have F9 := Lib.hid (F8.out.app h9 k9 (a9.imp id fun e b hb => by rw [e] at hb; exact Nat.le_of_eq (Option.some.inj hb)))
        have ngt : ¬ some (W.heap.size + 3) = (Value.slice av K.length cv).ownBlock := fun e => F8.out.og.ne e.symm
        have nlow : ∀ q, q < W.heap.size + 2 → ¬ some q = (Value.slice av K.length cv).ownBlock := fun q hq e => by have := (F8.out.og.ob.lt q e.symm).1; omega
        have hz8 := F8.out.bl.size
        have s9 : w9.cell? ⟨W.heap.size + 3, 1, none⟩ = some (.slice av K.length cv) ∧ w9.cell? ⟨W.heap.size, 1, none⟩ = some (.slice (some ⟨bb, off, none⟩) l.length cap) ∧ w9.cell? ⟨bb, off + k * 2, none⟩ = some (.int .i64 x1) ∧ w9.cell? ⟨bb, off + k * 2 + 1, none⟩ = some (.int .i64 x2) ∧ True := ⟨(k9.cell hgt8 ngt).trans F8.out.og.c1, (k9.cell F8.out.bg.1 (nlow _ (by omega))).trans F8.out.bg.2.2, (k9.cell (o := off + k * 2) (by omega) (nlow _ (by omega))).trans s8.2.2.1, (k9.cell (o := off + k * 2 + 1) (by omega) (nlow _ (by omega))).trans s8.2.2.2.1, trivial⟩
        have f9 : w9.frozen? ⟨W.heap.size + 3, 1, none⟩ = false := (k9.frozen hgt8 ngt).trans F8.out.og.f1
        clear h9 k9 a9 F8 HLI ngt nlow s8 hc0 hc1
        refine hKK.out _ _ (.inr s9) ?_
        clear hKK KK
        try simp only [Act.put, List.setIfInBounds_toArray, List.set_cons_zero, List.set_cons_succ, List.getElem_toArray, List.getElem_cons_zero, List.getElem_cons_succ]
        refine wpAnyZ_step (i := 9) (by kernel_rfl) rfl (by rfl) ?_
        intro KK hKK
        go_simp
        refine hKK.out _ _ (.inr s9) ?_
        clear hKK KK
        try simp only [Act.put, List.setIfInBounds_toArray, List.set_cons_zero, List.set_cons_succ, List.getElem_toArray, List.getElem_cons_zero, List.getElem_cons_succ]
        obtain ⟨c9, -⟩ := s9
        refine wpAnyZ_step (i := 10) (by kernel_rfl) rfl (by rfl) ?_
        intro KK hKK
        go_simp
        refine hKK.out _ _ (.inl (by kernel_rfl)) ?_
        clear hKK KK
        try simp only [Act.put, List.setIfInBounds_toArray, List.set_cons_zero, List.set_cons_succ, List.getElem_toArray, List.getElem_cons_zero, List.getElem_cons_succ]
        refine wpAnyZ_done (by kernel_rfl) ?_ _
        clear c9 f9
        go_wp2_with fail
        go_roundw
        case rel =>
          have F10 := F9.out
          rw [show (K ++ [(x1, x2)]).length = K.length + 1 by simp] at F10
          refine ⟨k + 1, .slice aw (K.length + 1) cw, by omega, by go_num, ?_⟩
          rw [HKS.out]
          exact F10
        case measure => simp [intOf]; omega
      · rw [decide_eq_false hin]
        have HKS : Hid (keepTo l s (k + 1) = keepTo l s k) := Lib.hid (by
          show keepTo l s k ++ _ = _
          rw [if_neg hin, List.append_nil])
        clear hin
        go_wp2_with fail
        go_roundw
        case rel =>
          refine ⟨k + 1, .slice av (keepTo l s k).length cv, by omega, by go_num, ?_⟩
          rw [HKS.out]
          exact OS.out
        case measure => simp [intOf]; omega
    · obtain rfl : k = l.length := by omega
      obtain ⟨o0, o1, o2, o3, o4, o5, o6⟩ := OS.out.og
      obtain ⟨⟨z1, z2, z3, c0, c1⟩, ⟨f0, f1⟩, gz⟩ := OS.out.rz
      have HLD := Lib.hid (laid2 (p := p) (g := W.heap.size + 1) o3 (by omega) (by omega) (by omega) OS.out.bl)
      go_wp2_with fail
      exact bodyPost_ret (v := .agg #[.int .i64 p, .slice av (keepTo l s l.length).length cv]) (by simp [results, Tryz.results113, go_sem, gz, c0, c1]) rfl ⟨_, rfl, HLD.out.1, HLD.out.2⟩
end Go.Proofs.YtfbmpkdjhhcnpaaGreat

