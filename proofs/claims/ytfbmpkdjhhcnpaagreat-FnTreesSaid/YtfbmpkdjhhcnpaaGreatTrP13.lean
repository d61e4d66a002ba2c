/- The pebble game in plain words: searching, turning a path round, gathering, placing. No program in sight. -/
import Derived.Test.YtfbmpkdjhhcnpaaGreatTrP05
import Derived.Test.YtfbmpkdjhhcnpaaGreatTrP01
import Derived.Test.YtfbmpkdjhhcnpaaGreatTrP02
import Derived.Maps.OwnSet
import Derived.Maps.OwnOps
import Derived.Deep.RegionLaw
import Derived.BigRegion
import Derived.OrdersHeld
import Derived.StillTail
import Derived.Lib.Hide
import Derived.Test.YtfbmpkdjhhcnpaaGreatTrP04
import Derived.Deep.RegionHeld3
import Derived.Test.YtfbmpkdjhhcnpaaGreatTrP06
import Derived.Test.YtfbmpkdjhhcnpaaGreatTrP10
namespace Go.Proofs.YtfbmpkdjhhcnpaaGreat
open Go.RowKit
set_option maxRecDepth 100000
set_option linter.unusedVariables false
set_option linter.unusedSimpArgs false

/-- free pebbles, tails, placed bars -/
abbrev PebT := List Int × List Int × List Int
def gI (l : List Int) (i : Nat) : Int := l[i]?.getD 0
def gB (l : List BarT) (i : Nat) : BarT := l[i]?.getD (0, 0)
def othB (x : BarT) (v : Int) : Int := if x.1 = v then x.2 else x.1
/-- the far end of the j-th placed bar -/
def hop (bars : List BarT) (S : PebT) (j : Nat) : Int := othB (gB bars (gI S.2.2 j).toNat) (gI S.2.1 j)
/-- what the search knows: points with the place of the bar that led there -/
abbrev QuT := List (Int × Int)
def seenQ (q : QuT) (v : Int) : Bool := q.any fun x => x.1 == v
def inner (bars : List BarT) (S : PebT) (b u : Int) : List Nat → QuT → QuT × Option Int
  | [], q => (q, none)
  | j :: js, q => if gI S.2.1 j = u then
      (if seenQ q (hop bars S j) = true then inner bars S b u js q
       else if hop bars S j = b ∨ gI S.1 (hop bars S j).toNat = 0 then inner bars S b u js (q ++ [(hop bars S j, (j : Int))])
       else (q ++ [(hop bars S j, (j : Int))], some (hop bars S j)))
    else inner bars S b u js q
def outer (bars : List BarT) (S : PebT) (b : Int) : Nat → Nat → QuT → Option (QuT × Int)
  | 0, _, _ => none
  | f + 1, i, q => match q[i]? with
    | none => none
    | some x => match inner bars S b x.1 (List.range S.2.2.length) q with
      | (q', some v) => some (q', v)
      | (q', none) => outer bars S b f (i + 1) q'
def frm (q : QuT) (v : Int) : Int := match q.find? (fun x => x.1 == v) with | some x => x.2 | none => 0
def back (q : QuT) (a : Int) : Nat → Int → List Int → List Int
  | 0, _, t => t
  | f + 1, v, t => if v = a then t else back q a f (gI t (frm q v).toNat) (t.set (frm q v).toNat v)
def movF (l : List Int) (v a : Int) : List Int := (l.set v.toNat (gI l v.toNat - 1)).set a.toNat (gI (l.set v.toNat (gI l v.toNat - 1)) a.toNat + 1)
def findP (bars : List BarT) (a b : Int) (S : PebT) : Option PebT := match outer bars S b 10 0 [(a, -1)] with
  | none => none
  | some (q, v) => some (movF S.1 v a, back q a 10 v S.2.1, S.2.2)
def gatherP (bars : List BarT) (a b want : Int) : Nat → PebT → PebT × Bool
  | 0, S => (S, true)
  | f + 1, S => if gI S.1 a.toNat + gI S.1 b.toNat < want then
      (match findP bars a b S with
      | some S' => gatherP bars a b want f S'
      | none => match findP bars b a S with
        | some S' => gatherP bars a b want f S'
        | none => (S, false))
    else (S, true)
def layP (S : PebT) (t : Int) (e : Nat) : PebT := (S.1.set t.toNat (gI S.1 t.toNat - 1), S.2.1 ++ [t], S.2.2 ++ [(e : Int)])
def placeP (bars : List BarT) (l : Int) (S : PebT) (e : Nat) : Option PebT := match gatherP bars (gB bars e).1 (gB bars e).2 (l + 1) 7 S with
  | (S', true) => some (layP S' (if gI S'.1 (gB bars e).1.toNat = 0 then (gB bars e).2 else (gB bars e).1) e)
  | (_, false) => none
def playTo (bars : List BarT) (l : Int) (S0 : PebT) : Nat → PebT
  | 0 => S0
  | e + 1 => (placeP bars l (playTo bars l S0 e) e).getD (playTo bars l S0 e)
def playP (n : Nat) (bars : List BarT) (k l : Int) : PebT := playTo bars l (List.replicate n k, [], []) bars.length
end Go.Proofs.YtfbmpkdjhhcnpaaGreat

namespace Go.Proofs.YtfbmpkdjhhcnpaaGreat
open Go.RowKit
set_option maxRecDepth 100000
set_option linter.unusedVariables false
set_option linter.unusedSimpArgs false

def Bok (n : Nat) (bars : List BarT) : Prop := ∀ e : Nat, e < bars.length → 0 ≤ (gB bars e).1 ∧ (gB bars e).1 < (gB bars e).2 ∧ (gB bars e).2 < n
/-- one where x is y -/
def dl (x y : Int) : Nat := if x = y then 1 else 0
structure Inv (n : Nat) (k : Int) (bars : List BarT) (E : Nat) (S : PebT) : Prop where
  len : S.1.length = n
  tl : S.2.1.length = S.2.2.length
  pl : ∀ j : Nat, j < S.2.2.length → ∃ e : Nat, gI S.2.2 j = e ∧ e < E ∧ (gI S.2.1 j = (gB bars e).1 ∨ gI S.2.1 j = (gB bars e).2)
  inc : ∀ j : Nat, j + 1 < S.2.2.length → gI S.2.2 j < gI S.2.2 (j + 1)
  fr : ∀ v : Nat, v < n → 0 ≤ gI S.1 v ∧ gI S.1 v + (S.2.1.count (v : Int) : Nat) = k
theorem Inv.hp {n : Nat} {k : Int} {bars : List BarT} {E : Nat} {S : PebT} (h : Inv n k bars E S) (hb : Bok n bars) (hE : E ≤ bars.length) {j : Nat} (hj : j < S.2.2.length) :
    (0 ≤ gI S.2.1 j ∧ gI S.2.1 j < n) ∧ (0 ≤ hop bars S j ∧ hop bars S j < n) ∧ hop bars S j ≠ gI S.2.1 j ∧ ∃ e : Nat, gI S.2.2 j = e ∧ e < bars.length ∧ (gB bars e).1 + (gB bars e).2 - gI S.2.1 j = hop bars S j ∧ (hop bars S j = (gB bars e).1 ∨ hop bars S j = (gB bars e).2) := by
  obtain ⟨e, he, hE2, ht⟩ := h.pl j hj
  have hbe := hb e (by omega)
  have hh : hop bars S j = othB (gB bars e) (gI S.2.1 j) := by
    show othB (gB bars (gI S.2.2 j).toNat) (gI S.2.1 j) = _
    rw [he, Int.toNat_natCast]
  unfold othB at hh
  rcases ht with ht | ht
  · rw [ht, if_pos rfl] at hh
    rw [ht, hh]
    exact ⟨⟨by omega, by omega⟩, ⟨by omega, by omega⟩, by omega, e, he, by omega, by omega, .inr rfl⟩
  · rw [ht, if_neg (by omega)] at hh
    rw [ht, hh]
    exact ⟨⟨by omega, by omega⟩, ⟨by omega, by omega⟩, by omega, e, he, by omega, by omega, .inl rfl⟩
theorem seenQ_iff {q : QuT} {v : Int} : seenQ q v = true ↔ v ∈ q.map (·.1) := by
  unfold seenQ
  rw [List.any_eq_true, List.mem_map]
  constructor
  · rintro ⟨x, hx, h⟩; exact ⟨x, hx, by simpa using h⟩
  · rintro ⟨x, hx, h⟩; exact ⟨x, hx, by simpa using h⟩
/-- what stays true of the queue -/
structure QI (n : Nat) (bars : List BarT) (S : PebT) (a : Int) (q : QuT) : Prop where
  hd : q[0]? = some (a, -1)
  nd : (q.map (·.1)).Nodup
  bd : ∀ x ∈ q, 0 ≤ x.1 ∧ x.1 < n
  up : ∀ (i : Nat) x, q[i]? = some x → i ≠ 0 → ∃ j i' y, x.2 = ((j : Nat) : Int) ∧ j < S.2.2.length ∧ i' < i ∧ q[i']? = some y ∧ gI S.2.1 j = y.1 ∧ hop bars S j = x.1
theorem QI.start {n : Nat} {bars : List BarT} {S : PebT} {a : Int} (h0 : 0 ≤ a) (h1 : a < n) : QI n bars S a [(a, -1)] where
  hd := rfl
  nd := by simp
  bd := by simp; omega
  up := fun i x h hi => by
    cases i with
    | zero => exact absurd rfl hi
    | succ i => simp at h
theorem QI.snoc {n : Nat} {k : Int} {bars : List BarT} {E : Nat} {S : PebT} {a : Int} {q : QuT} (h : QI n bars S a q) (hI : Inv n k bars E S) (hb : Bok n bars) (hE : E ≤ bars.length) {i j : Nat} {y : Int × Int} (hi : q[i]? = some y) (hj : j < S.2.2.length) (ht : gI S.2.1 j = y.1) (hs : ¬ seenQ q (hop bars S j) = true) :
    QI n bars S a (q ++ [(hop bars S j, (j : Int))]) where
  hd := by
    have h0 : 0 < q.length := by
      have := h.hd
      rcases q with _ | ⟨x, t⟩
      · simp at this
      · simp
    rw [List.getElem?_append_left h0]; exact h.hd
  nd := by
    rw [List.map_append, List.nodup_append]
    refine ⟨h.nd, by simp, ?_⟩
    intro x hx z hz
    simp at hz
    subst hz
    intro e
    subst e
    exact hs (seenQ_iff.2 hx)
  bd := by
    intro x hx
    simp at hx
    rcases hx with hx | rfl
    · exact h.bd x hx
    · exact (hI.hp hb hE hj).2.1
  up := by
    intro i' x hx hi0
    rcases Nat.lt_or_ge i' q.length with hl | hl
    · rw [List.getElem?_append_left hl] at hx
      obtain ⟨j', i'', y', h1, h2, h3, h4, h5⟩ := h.up i' x hx hi0
      exact ⟨j', i'', y', h1, h2, h3, by rw [List.getElem?_append_left (by omega)]; exact h4, h5⟩
    · rw [List.getElem?_append_right hl] at hx
      have : i' - q.length = 0 := by
        rcases Nat.eq_zero_or_pos (i' - q.length) with e | e
        · exact e
        · rw [List.getElem?_eq_none (by simp; omega)] at hx; cases hx
      rw [this] at hx
      simp at hx
      subst hx
      have hil := lt_of_getElem? hi
      exact ⟨j, i, y, rfl, hj, by omega, by rw [List.getElem?_append_left hil]; exact hi, ht, rfl⟩
theorem filt_len (n : Int) : ∀ l : List Int, (l.filter fun x => !(x == n)).length + l.count n = l.length
  | [] => rfl
  | x :: t => by
    have ih := filt_len n t
    rw [List.filter_cons, List.count_cons]
    by_cases h : x = n
    · subst h
      simp
      omega
    · have e : (x == n) = false := by simpa using h
      simp [e]
      omega
/-- different numbers below n are no more than n -/
theorem nodup_le : ∀ (n : Nat) (l : List Int), l.Nodup → (∀ x ∈ l, 0 ≤ x ∧ x < n) → l.length ≤ n
  | 0, l, _, h => by
    cases l with
    | nil => simp
    | cons x t => have := h x (by simp); omega
  | n + 1, l, hn, h => by
    have h1 := nodup_le n (l.filter fun x => !(x == (n : Int))) (hn.filter _) (fun x hx => by
      rw [List.mem_filter] at hx
      have := h x hx.1
      have h2 : x ≠ (n : Int) := by simpa using hx.2
      omega)
    have h2 : (l.filter fun x => !(x == (n : Int))).length + l.count (n : Int) = l.length := by
      exact filt_len _ _
    have h3 : l.count (n : Int) ≤ 1 := List.nodup_iff_count.1 hn _
    omega
theorem QI.le {n : Nat} {bars : List BarT} {S : PebT} {a : Int} {q : QuT} (h : QI n bars S a q) : q.length ≤ n := by
  have := nodup_le n (q.map (·.1)) h.nd (fun x hx => by
    rw [List.mem_map] at hx
    obtain ⟨y, hy, rfl⟩ := hx
    exact h.bd y hy)
  simpa using this
theorem frm_at {n : Nat} {bars : List BarT} {S : PebT} {a : Int} {q : QuT} (h : QI n bars S a q) {i : Nat} {x : Int × Int} (hi : q[i]? = some x) : frm q x.1 = x.2 := by
  unfold frm
  have hnd := h.nd
  clear h
  induction q generalizing i with
  | nil => simp at hi
  | cons y t ih =>
    rw [List.find?_cons]
    cases i with
    | zero =>
      simp at hi; subst hi
      simp
    | succ i =>
      simp at hi
      have hne : y.1 ≠ x.1 := by
        intro e
        rw [List.map_cons, List.nodup_cons] at hnd
        exact hnd.1 (by rw [e]; exact List.mem_map.2 ⟨x, List.mem_of_getElem? hi, rfl⟩)
      have : (y.1 == x.1) = false := by simpa using hne
      rw [this]
      rw [List.map_cons, List.nodup_cons] at hnd
      exact ih hi hnd.2
/-- the search over some of the placed bars -/
theorem inner_QI {n : Nat} {k : Int} {bars : List BarT} {E : Nat} {S : PebT} {a b : Int} (hI : Inv n k bars E S) (hb : Bok n bars) (hE : E ≤ bars.length) {y : Int × Int} : ∀ (js : List Nat) {q : QuT} {i : Nat}, QI n bars S a q → q[i]? = some y → (∀ j ∈ js, j < S.2.2.length) →
    QI n bars S a (inner bars S b y.1 js q).1 ∧ (∀ (i : Nat) x, q[i]? = some x → (inner bars S b y.1 js q).1[i]? = some x) ∧ ∀ v, (inner bars S b y.1 js q).2 = some v → v ≠ a ∧ v ≠ b ∧ (0 ≤ v ∧ v < n) ∧ gI S.1 v.toNat ≠ 0 ∧ ∃ (i' : Nat) (x : Int × Int), (inner bars S b y.1 js q).1[i']? = some x ∧ x.1 = v ∧ i' ≠ 0
  | [], q, i, hq, hy, _ => ⟨hq, fun _ _ h => h, fun v h => by simp [inner] at h⟩
  | j :: js, q, i, hq, hy, hjs => by
    have hjs' : ∀ j ∈ js, j < S.2.2.length := fun x hx => hjs x (by simp [hx])
    have hj := hjs j (by simp)
    unfold inner
    split
    · next ht =>
      split
      · exact inner_QI hI hb hE js hq hy hjs'
      · next hs =>
        have hq2 := hq.snoc hI hb hE hy hj ht hs
        have hy2 : (q ++ [(hop bars S j, (j : Int))])[i]? = some y := by rw [List.getElem?_append_left (lt_of_getElem? hy)]; exact hy
        have hmono : ∀ (i : Nat) x, q[i]? = some x → (q ++ [(hop bars S j, (j : Int))])[i]? = some x := fun i x h => by rw [List.getElem?_append_left (lt_of_getElem? h)]; exact h
        split
        · obtain ⟨h1, h2, h3⟩ := inner_QI hI hb hE js hq2 hy2 hjs'
          exact ⟨h1, fun i x h => h2 i x (hmono i x h), h3⟩
        · next hn =>
          refine ⟨hq2, hmono, fun v hv => ?_⟩
          simp only [Option.some.injEq] at hv
          subst hv
          rw [not_or] at hn
          refine ⟨?_, hn.1, (hI.hp hb hE hj).2.1, hn.2, q.length, _, by simp; rfl, rfl, ?_⟩
          · intro e
            apply hs
            rw [seenQ_iff, e]
            exact List.mem_map.2 ⟨(a, -1), List.mem_of_getElem? hq.hd, rfl⟩
          · have := lt_of_getElem? hq.hd; omega
    · exact inner_QI hI hb hE js hq hy hjs'
theorem outer_QI {n : Nat} {k : Int} {bars : List BarT} {E : Nat} {S : PebT} {a b : Int} (hI : Inv n k bars E S) (hb : Bok n bars) (hE : E ≤ bars.length) : ∀ (f i : Nat) {q : QuT}, QI n bars S a q → ∀ q' v, outer bars S b f i q = some (q', v) →
    QI n bars S a q' ∧ v ≠ a ∧ v ≠ b ∧ (0 ≤ v ∧ v < n) ∧ gI S.1 v.toNat ≠ 0 ∧ ∃ (i' : Nat) (x : Int × Int), q'[i']? = some x ∧ x.1 = v ∧ i' ≠ 0
  | 0, i, q, hq, q', v, h => by simp [outer] at h
  | f + 1, i, q, hq, q', v, h => by
    unfold outer at h
    split at h
    · cases h
    · next x hx =>
      have hin := inner_QI (a := a) (b := b) hI hb hE (y := x) (List.range S.2.2.length) hq hx (fun j hj => by simpa using hj)
      split at h
      · next q1 v1 he =>
        simp only [Option.some.injEq, Prod.mk.injEq] at h
        obtain ⟨rfl, rfl⟩ := h
        rw [he] at hin
        exact ⟨hin.1, hin.2.2 v1 rfl⟩
      · next q1 he =>
        rw [he] at hin
        exact outer_QI hI hb hE f (i + 1) hin.1 q' v h
end Go.Proofs.YtfbmpkdjhhcnpaaGreat

namespace Go.Proofs.YtfbmpkdjhhcnpaaGreat
open Go.RowKit
set_option maxRecDepth 100000
set_option linter.unusedVariables false
set_option linter.unusedSimpArgs false

theorem gI_set {l : List Int} {i j : Nat} {x : Int} (hi : i < l.length) : gI (l.set i x) j = if i = j then x else gI l j := by
  unfold gI
  rw [List.getElem?_set]
  by_cases h : i = j
  · subst h; simp [hi]
  · simp [h]
theorem gI_get {l : List Int} {i : Nat} (hi : i < l.length) : l[i]? = some (gI l i) := by
  unfold gI; rw [List.getElem?_eq_getElem hi]; rfl
theorem count_set {l : List Int} {i : Nat} {x u : Int} (hi : i < l.length) : (l.set i x).count u + dl u (gI l i) = l.count u + dl u x := by
  unfold gI dl
  rw [List.getElem?_eq_getElem hi, Option.getD_some, List.count_set hi]
  have h1 : l[i] = u → 0 < l.count u := fun e => List.count_pos_iff.2 (e ▸ List.getElem_mem hi)
  by_cases h : u = x
  · subst h
    by_cases h2 : l[i] = u
    · have := h1 h2
      simp [h2]
      omega
    · have h3 : ¬ u = l[i] := fun e => h2 e.symm
      simp [h2, h3]
  · have h4 : ¬ x = u := fun e => h e.symm
    by_cases h2 : l[i] = u
    · have := h1 h2
      simp [h2, h, h4]
      omega
    · have h3 : ¬ u = l[i] := fun e => h2 e.symm
      simp [h2, h3, h, h4]
/-- where the turning has not come yet the tails are as they were -/
def Agree (S : PebT) (q : QuT) (T : List Int) (i : Nat) : Prop := T.length = S.2.1.length ∧ ∀ (i' : Nat) x, i' ≤ i → i' ≠ 0 → q[i']? = some x → gI T x.2.toNat = gI S.2.1 x.2.toNat
theorem Agree.start {S : PebT} {q : QuT} {i : Nat} : Agree S q S.2.1 i := ⟨rfl, fun _ _ _ _ _ => rfl⟩
/-- one bar of the path is turned -/
theorem Agree.step {n : Nat} {k : Int} {bars : List BarT} {E : Nat} {S : PebT} {a : Int} {q : QuT} (hI : Inv n k bars E S) (hq : QI n bars S a q) {T : List Int} {i : Nat} (h : Agree S q T i) {x : Int × Int} (hx : q[i]? = some x) (h0 : i ≠ 0) :
    ∃ j i' y, x.2 = ((j : Nat) : Int) ∧ frm q x.1 = (j : Int) ∧ j < S.2.2.length ∧ i' < i ∧ q[i']? = some y ∧ gI T j = y.1 ∧ gI S.2.1 j = y.1 ∧ hop bars S j = x.1 ∧ Agree S q (T.set j x.1) i' := by
  obtain ⟨j, i', y, h1, h2, h3, h4, h5, h6⟩ := hq.up i x hx h0
  have e1 := h.2 i x (Nat.le_refl _) h0 hx
  rw [h1, Int.toNat_natCast] at e1
  refine ⟨j, i', y, h1, (frm_at hq hx).trans h1, h2, h3, h4, e1.trans h5, h5, h6, by rw [List.length_set]; exact h.1, ?_⟩
  intro i2 x2 hi2 hn2 hx2
  obtain ⟨j2, i3, y2, g1, g2, g3, g4, g5, g6⟩ := hq.up i2 x2 hx2 hn2
  rw [gI_set (by rw [h.1, hI.tl]; exact h2), if_neg ?_]
  · exact h.2 i2 x2 (by omega) hn2 hx2
  · intro e
    rw [g1, Int.toNat_natCast] at e
    subst e
    rw [h6] at g6
    have hnd := hq.nd
    have l1 := lt_of_getElem? hx
    have l2 := lt_of_getElem? hx2
    have := (List.nodup_iff_pairwise_ne.1 hnd)
    rw [List.pairwise_iff_getElem] at this
    have h7 := this i2 i (by simpa using l2) (by simpa using l1) (by omega)
    apply h7
    rw [List.getElem_map, List.getElem_map]
    rw [List.getElem?_eq_getElem l1] at hx
    rw [List.getElem?_eq_getElem l2] at hx2
    simp only [Option.some.injEq] at hx hx2
    rw [hx, hx2, g6]
theorem back_ok {n : Nat} {k : Int} {bars : List BarT} {E : Nat} {S : PebT} {a : Int} {q : QuT} (hI : Inv n k bars E S) (hb : Bok n bars) (hE : E ≤ bars.length) (hq : QI n bars S a q) : ∀ (f i : Nat) (T : List Int) (x : Int × Int), q[i]? = some x → i < f → Agree S q T i →
    (∀ j : Nat, j < S.2.2.length → ∀ e : Nat, gI S.2.2 j = e → (gI T j = (gB bars e).1 ∨ gI T j = (gB bars e).2)) →
    (back q a f x.1 T).length = S.2.1.length ∧ (∀ u, (back q a f x.1 T).count u + dl u a = T.count u + dl u x.1) ∧ ∀ j : Nat, j < S.2.2.length → ∀ e : Nat, gI S.2.2 j = e → (gI (back q a f x.1 T) j = (gB bars e).1 ∨ gI (back q a f x.1 T) j = (gB bars e).2)
  | 0, i, T, x, hx, hf, hA, hT => absurd hf (Nat.not_lt_zero _)
  | f + 1, i, T, x, hx, hf, hA, hT => by
    unfold back
    by_cases h0 : i = 0
    · subst h0
      rw [hq.hd] at hx
      simp only [Option.some.injEq] at hx
      subst hx
      rw [if_pos rfl]
      exact ⟨hA.1, fun u => rfl, hT⟩
    · have hne : x.1 ≠ a := by
        intro e
        have hnd := List.nodup_iff_pairwise_ne.1 hq.nd
        rw [List.pairwise_iff_getElem] at hnd
        have l1 := lt_of_getElem? hx
        have l0 := lt_of_getElem? hq.hd
        have h7 := hnd 0 i (by simpa using l0) (by simpa using l1) (by omega)
        apply h7
        rw [List.getElem_map, List.getElem_map]
        have hh := hq.hd
        rw [List.getElem?_eq_getElem l1] at hx
        rw [List.getElem?_eq_getElem l0] at hh
        simp only [Option.some.injEq] at hx hh
        rw [hx, hh, e]
      rw [if_neg hne]
      obtain ⟨j, i', y, h1, h2, h3, h4, h5, h6, h6', h7, h8⟩ := hA.step hI hq hx h0
      rw [h2, Int.toNat_natCast, h6]
      have hjl : j < T.length := by rw [hA.1, hI.tl]; exact h3
      obtain ⟨g1, g2, g3⟩ := back_ok hI hb hE hq f i' (T.set j x.1) y h5 (by omega) h8 (by
        intro j' hj' e he
        rw [gI_set hjl]
        split
        · next hjj =>
          subst hjj
          obtain ⟨e2, he2, _, _, h9⟩ := (hI.hp hb hE hj').2.2.2
          rw [he] at he2
          have : e = e2 := by omega
          subst this
          rw [← h7]; exact h9
        · exact hT j' hj' e he)
      refine ⟨g1, fun u => ?_, g3⟩
      have := count_set (u := u) (x := x.1) hjl
      rw [h6] at this
      have := g2 u
      omega
theorem movF_get {l : List Int} {v a : Int} {u n : Nat} (hl : l.length = n) (hv : 0 ≤ v ∧ v < n) (ha : 0 ≤ a ∧ a < n) (hu : u < n) : gI (movF l v a) u + (dl u v : Nat) = gI l u + (dl u a : Nat) := by
  unfold movF dl
  rw [gI_set (by simp; omega), gI_set (by omega), gI_set (by omega)]
  have e1 : (v.toNat = u) ↔ ((u : Int) = v) := by omega
  have e2 : (a.toNat = u) ↔ ((u : Int) = a) := by omega
  have e3 : (v.toNat = a.toNat) ↔ (v = a) := by omega
  by_cases h1 : (u : Int) = v <;> by_cases h2 : (u : Int) = a <;> by_cases h3 : v = a <;> simp [h1, h2, h3, e1, e2, e3] <;> (try omega)
  all_goals (subst_vars; try simp_all; try omega)
theorem findP_ok {n : Nat} {k : Int} {bars : List BarT} {E : Nat} {S S' : PebT} {a b : Int} (hI : Inv n k bars E S) (hb : Bok n bars) (hE : E ≤ bars.length) (hn : n ≤ 8) (ha : 0 ≤ a ∧ a < n) (hbb : 0 ≤ b ∧ b < n) (hab : a ≠ b) (h : findP bars a b S = some S') :
    Inv n k bars E S' ∧ gI S'.1 a.toNat = gI S.1 a.toNat + 1 ∧ gI S'.1 b.toNat = gI S.1 b.toNat ∧ S'.2.2 = S.2.2 := by
  unfold findP at h
  split at h
  · cases h
  · next q v hq =>
    simp only [Option.some.injEq] at h
    subst h
    obtain ⟨hQ, hva, hvb, hv, hfv, i', x, hx, rfl, hi0⟩ := outer_QI hI hb hE 10 0 (QI.start ha.1 ha.2) q v hq
    have hil := lt_of_getElem? hx
    have hql := hQ.le
    obtain ⟨g1, g2, g3⟩ := back_ok hI hb hE hQ 10 i' S.2.1 x hx (by omega) Agree.start (fun j hj e he => by
      obtain ⟨e2, he2, _, h9⟩ := hI.pl j hj
      rw [he] at he2
      have : e = e2 := by omega
      subst this
      exact h9)
    have hm := fun u hu => movF_get (u := u) hI.len hv ha hu
    have ea : (a.toNat : Int) = a := Int.toNat_of_nonneg ha.1
    have eb : (b.toNat : Int) = b := Int.toNat_of_nonneg hbb.1
    have ev : (x.1.toNat : Int) = x.1 := Int.toNat_of_nonneg hv.1
    refine ⟨⟨?_, ?_, ?_, hI.inc, ?_⟩, ?_, ?_, rfl⟩
    · show (movF S.1 x.1 a).length = n
      unfold movF
      rw [List.length_set, List.length_set, hI.len]
    · show (back _ _ _ _ _).length = _
      rw [g1, hI.tl]
    · intro j hj
      obtain ⟨e, he, hE2, _⟩ := hI.pl j hj
      exact ⟨e, he, hE2, g3 j hj e he⟩
    · intro u hu
      have f1 := hm u hu
      have f2 := g2 (u : Int)
      have f3 := hI.fr u hu
      have f4 : dl (u : Int) x.1 = 1 → 1 ≤ gI S.1 u := fun e => by
        unfold dl at e
        split at e
        · next e2 =>
          have : x.1.toNat = u := by omega
          rw [this] at hfv
          omega
        · cases e
      have f5 : dl (u : Int) x.1 = 0 ∨ dl (u : Int) x.1 = 1 := by unfold dl; split <;> simp
      have f6 : dl (u : Int) a = 0 ∨ dl (u : Int) a = 1 := by unfold dl; split <;> simp
      dsimp only
      constructor
      · rcases f5 with f5 | f5
        · omega
        · have := f4 f5; omega
      · omega
    · have f1 := hm a.toNat (by omega)
      rw [ea] at f1
      have d1 : dl a x.1 = 0 := by unfold dl; rw [if_neg (fun e => hva e.symm)]
      have d2 : dl a a = 1 := by unfold dl; rw [if_pos rfl]
      dsimp only
      omega
    · have f1 := hm b.toNat (by omega)
      rw [eb] at f1
      have d1 : dl b x.1 = 0 := by unfold dl; rw [if_neg (fun e => hvb e.symm)]
      have d2 : dl b a = 0 := by unfold dl; rw [if_neg (fun e => hab e.symm)]
      dsimp only
      omega
theorem gatherP_ok {n : Nat} {k : Int} {bars : List BarT} {E : Nat} {a b want : Int} (hb : Bok n bars) (hE : E ≤ bars.length) (hn : n ≤ 8) (ha : 0 ≤ a ∧ a < n) (hbb : 0 ≤ b ∧ b < n) (hab : a ≠ b) : ∀ (f : Nat) (S : PebT), Inv n k bars E S →
    Inv n k bars E (gatherP bars a b want f S).1 ∧ (gatherP bars a b want f S).1.2.2 = S.2.2 ∧ ((gatherP bars a b want f S).2 = true → want ≤ gI S.1 a.toNat + gI S.1 b.toNat + f → want ≤ gI (gatherP bars a b want f S).1.1 a.toNat + gI (gatherP bars a b want f S).1.1 b.toNat)
  | 0, S, h => ⟨h, rfl, fun _ h => by simpa [gatherP] using h⟩
  | f + 1, S, h => by
    unfold gatherP
    split
    · split
      · next S' hS =>
        obtain ⟨h1, h2, h3, h4⟩ := findP_ok h hb hE hn ha hbb hab hS
        obtain ⟨g1, g2, g3⟩ := gatherP_ok hb hE hn ha hbb hab f S' h1
        exact ⟨g1, g2.trans h4, fun e1 e2 => g3 e1 (by push_cast at e2; omega)⟩
      · split
        · next S' hS =>
          obtain ⟨h1, h2, h3, h4⟩ := findP_ok h hb hE hn hbb ha (fun e => hab e.symm) hS
          obtain ⟨g1, g2, g3⟩ := gatherP_ok hb hE hn ha hbb hab f S' h1
          exact ⟨g1, g2.trans h4, fun e1 e2 => g3 e1 (by push_cast at e2; omega)⟩
        · exact ⟨h, rfl, fun e => by cases e⟩
    · exact ⟨h, rfl, fun _ _ => by dsimp only; omega⟩
theorem gI_snoc {l : List Int} {x : Int} {i : Nat} : gI (l ++ [x]) i = if i < l.length then gI l i else if i = l.length then x else 0 := by
  unfold gI
  by_cases h : i < l.length
  · rw [List.getElem?_append_left h, if_pos h]
  · rw [if_neg h, List.getElem?_append_right (by omega)]
    by_cases h2 : i = l.length
    · subst h2; simp
    · rw [if_neg h2, List.getElem?_eq_none (by simp; omega)]; rfl
theorem placeP_ok {n : Nat} {k l : Int} {bars : List BarT} {e : Nat} {S S' : PebT} (hI : Inv n k bars e S) (hb : Bok n bars) (he : e < bars.length) (hn : n ≤ 8) (hl : 0 ≤ l ∧ l ≤ 5) (h : placeP bars l S e = some S') :
    Inv n k bars (e + 1) S' ∧ S'.2.2 = S.2.2 ++ [(e : Int)] := by
  have hbe := hb e he
  unfold placeP at h
  have hg := gatherP_ok (want := l + 1) hb (Nat.le_of_lt he) hn (a := (gB bars e).1) (b := (gB bars e).2) ⟨hbe.1, by omega⟩ ⟨by omega, hbe.2.2⟩ (by omega) 7 S hI
  split at h
  · next S1 hS1 =>
    rw [hS1] at hg
    simp only [Option.some.injEq] at h
    subst h
    obtain ⟨g1, g2, g3⟩ := hg
    dsimp only at g1 g2 g3
    have f0 := hI.fr (gB bars e).1.toNat (by omega)
    have f1 := hI.fr (gB bars e).2.toNat (by omega)
    have h3 := g3 rfl (by push_cast; omega)
    have fa := g1.fr (gB bars e).1.toNat (by omega)
    have fb := g1.fr (gB bars e).2.toNat (by omega)
    obtain ⟨t, ht⟩ : ∃ t, t = (if gI S1.1 (gB bars e).1.toNat = 0 then (gB bars e).2 else (gB bars e).1) := ⟨_, rfl⟩
    rw [← ht]
    have ht1 : t = (gB bars e).1 ∨ t = (gB bars e).2 := by rw [ht]; split <;> simp
    have ht2 : 0 ≤ t ∧ t < n := by omega
    have ht3 : 1 ≤ gI S1.1 t.toNat := by
      rw [ht]; split
      · omega
      · omega
    refine ⟨⟨?_, ?_, ?_, ?_, ?_⟩, by show S1.2.2 ++ _ = _; rw [g2]⟩
    · show (S1.1.set _ _).length = n
      rw [List.length_set, g1.len]
    · show (S1.2.1 ++ [t]).length = (S1.2.2 ++ [(e : Int)]).length
      rw [List.length_append, List.length_append, g1.tl]; rfl
    · intro j hj
      have hj2 : j < S1.2.2.length + 1 := by simpa [layP] using hj
      show ∃ e' : Nat, gI (S1.2.2 ++ [(e : Int)]) j = e' ∧ e' < e + 1 ∧ (gI (S1.2.1 ++ [t]) j = _ ∨ gI (S1.2.1 ++ [t]) j = _)
      rw [gI_snoc, gI_snoc, g1.tl]
      by_cases hjj : j < S1.2.2.length
      · obtain ⟨e', h5, h6, h7⟩ := g1.pl j hjj
        rw [if_pos hjj, if_pos hjj]
        exact ⟨e', h5, by omega, h7⟩
      · have : j = S1.2.2.length := by omega
        rw [if_neg hjj, if_neg hjj, if_pos this, if_pos this]
        exact ⟨e, rfl, by omega, ht1⟩
    · intro j hj
      have hj2 : j + 1 < S1.2.2.length + 1 := by simpa [layP] using hj
      show gI (S1.2.2 ++ [(e : Int)]) j < gI (S1.2.2 ++ [(e : Int)]) (j + 1)
      rw [gI_snoc, gI_snoc, if_pos (by omega)]
      by_cases hjj : j + 1 < S1.2.2.length
      · rw [if_pos hjj]; exact g1.inc j hjj
      · rw [if_neg hjj, if_pos (by omega)]
        obtain ⟨e', h5, h6, h7⟩ := g1.pl j (by omega)
        rw [h5]; omega
    · intro v hv
      have hf := g1.fr v hv
      show 0 ≤ gI (S1.1.set t.toNat _) v ∧ gI (S1.1.set t.toNat _) v + ((S1.2.1 ++ [t]).count (v : Int) : Nat) = k
      rw [gI_set (by rw [g1.len]; omega), List.count_append, List.count_cons, List.count_nil]
      by_cases htv : t.toNat = v
      · rw [if_pos htv]
        have : (t == (v : Int)) = true := by simp; omega
        rw [this]
        rw [htv] at ht3 ⊢
        simp
        omega
      · rw [if_neg htv]
        have : (t == (v : Int)) = false := by simp; omega
        rw [this]
        simp
        omega
  · cases h
theorem Inv.up {n : Nat} {k : Int} {bars : List BarT} {E E' : Nat} {S : PebT} (h : Inv n k bars E S) (hE : E ≤ E') : Inv n k bars E' S := ⟨h.len, h.tl, fun j hj => by obtain ⟨e, h1, h2, h3⟩ := h.pl j hj; exact ⟨e, h1, by omega, h3⟩, h.inc, h.fr⟩
theorem Inv.start {n : Nat} {k : Int} {bars : List BarT} (hk : 0 ≤ k) : Inv n k bars 0 (List.replicate n k, [], []) where
  len := by simp
  tl := rfl
  pl := fun j hj => by simp at hj
  inc := fun j hj => by simp at hj
  fr := fun v hv => by
    have : gI (List.replicate n k) v = k := by unfold gI; rw [List.getElem?_replicate, if_pos hv]; rfl
    simp [this, hk]
theorem playTo_ok {n : Nat} {k l : Int} {bars : List BarT} (hk : 0 ≤ k) (hb : Bok n bars) (hn : n ≤ 8) (hl : 0 ≤ l ∧ l ≤ 5) : ∀ e, e ≤ bars.length → Inv n k bars e (playTo bars l (List.replicate n k, [], []) e)
  | 0, _ => Inv.start hk
  | e + 1, he => by
    have ih := playTo_ok hk hb hn hl e (by omega)
    unfold playTo
    cases h : placeP bars l (playTo bars l (List.replicate n k, [], []) e) e with
    | none => exact ih.up (by omega)
    | some S' => exact (placeP_ok ih hb (by omega) hn hl h).1
end Go.Proofs.YtfbmpkdjhhcnpaaGreat

namespace Go.Proofs.YtfbmpkdjhhcnpaaGreat
open Go.RowKit
set_option maxRecDepth 100000
set_option linter.unusedVariables false
set_option linter.unusedSimpArgs false

/-- a slice of ints that is not empty -/
theorem ownForm {W : World} {base : Nat} {v : Value} {l : List Int} (h : OwnInts W base v l) (hl : 0 < l.length) : ∃ g c, v = .slice (some ⟨g, 0, none⟩) l.length c ∧ base ≤ g ∧ g < W.heap.size := by
  rcases h.2 with ⟨_, h0⟩ | ⟨g, c, cur, rfl, hb, hg, _⟩
  · omega
  · exact ⟨g, c, rfl, hb, (Array.getElem?_eq_some_iff.1 hg).1⟩
theorem OwnInts.gcell {W : World} {base g n c : Nat} {l : List Int} (h : OwnInts W base (.slice (some ⟨g, 0, none⟩) n c) l) {k : Nat} (hk : k < l.length) : W.cell? ⟨g, k, none⟩ = some (.int .i64 (gI l k)) := by
  obtain ⟨a, cap, he, hi⟩ := h.form
  simp only [Value.slice.injEq] at he
  obtain ⟨_, rfl, rfl⟩ := he
  have := World.ownsRow.cellAt (w := W) (base := base) h k (by omega)
  rw [this, List.getElem?_map, gI_get hk]; rfl
theorem OwnInts.gfroz {W : World} {base g n c : Nat} {l : List Int} (h : OwnInts W base (.slice (some ⟨g, 0, none⟩) n c) l) (k : Nat) : W.frozen? ⟨g, k, none⟩ = false := by
  obtain ⟨a, cap, he, hi⟩ := h.form
  simp only [Value.slice.injEq] at he
  obtain ⟨_, rfl, rfl⟩ := he
  exact World.ownsRow.frozenAt (w := W) (base := base) h k
theorem OwnInts.gset {W : World} {base g n c : Nat} {l : List Int} (h : OwnInts W base (.slice (some ⟨g, 0, none⟩) n c) l) (k : Nat) (x : Int) : OwnInts (W.setCell ⟨g, k, none⟩ (.int .i64 x)) base (.slice (some ⟨g, 0, none⟩) n c) (l.set k x) := by
  obtain ⟨a, cap, he, hi⟩ := h.form
  simp only [Value.slice.injEq] at he
  obtain ⟨_, rfl, rfl⟩ := he
  have h2 := ownInts_set (k := k) (x := x) h
  unfold OwnInts
  rw [List.length_set]
  exact h2

structure PebC (base : Nat) (w : World) (pb : Nat) (vF vT vP : Value) (S : PebT) : Prop where
  c0 : w.cell? ⟨pb, 0, none⟩ = some vF
  c1 : w.cell? ⟨pb, 1, none⟩ = some vT
  c2 : w.cell? ⟨pb, 2, none⟩ = some vP
  f0 : w.frozen? ⟨pb, 0, none⟩ = false
  f1 : w.frozen? ⟨pb, 1, none⟩ = false
  f2 : w.frozen? ⟨pb, 2, none⟩ = false
  oF : OwnInts w base vF S.1
  oT : OwnInts w base vT S.2.1
  oP : OwnInts w base vP S.2.2
  dFT : ∀ k, vF.ownBlock = some k → vT.ownBlock ≠ some k
  dFP : ∀ k, vF.ownBlock = some k → vP.ownBlock ≠ some k
  dTP : ∀ k, vT.ownBlock = some k → vP.ownBlock ≠ some k
  dF : vF.ownBlock ≠ some pb
  dT : vT.ownBlock ≠ some pb
  dP : vP.ownBlock ≠ some pb
  lo : base ≤ pb
  hi : pb < w.heap.size
def PebAt (base : Nat) (w : World) (pb : Nat) (S : PebT) : Prop := ∃ vF vT vP, PebC base w pb vF vT vP S
theorem PebC.kept {K : Nat → Prop} {base pb : Nat} {w w' : World} {vF vT vP : Value} {S : PebT} (h : PebC base w pb vF vT vP S) (hk : Kept K w w') (h0 : ¬ K pb) (hF : ∀ k, vF.ownBlock = some k → ¬ K k) (hT : ∀ k, vT.ownBlock = some k → ¬ K k) (hP : ∀ k, vP.ownBlock = some k → ¬ K k) : PebC base w' pb vF vT vP S where
  c0 := (hk.cell h.hi h0).trans h.c0
  c1 := (hk.cell h.hi h0).trans h.c1
  c2 := (hk.cell h.hi h0).trans h.c2
  f0 := (hk.frozen h.hi h0).trans h.f0
  f1 := (hk.frozen h.hi h0).trans h.f1
  f2 := (hk.frozen h.hi h0).trans h.f2
  oF := hk.ownsRow h.oF hF
  oT := hk.ownsRow h.oT hT
  oP := hk.ownsRow h.oP hP
  dFT := h.dFT
  dFP := h.dFP
  dTP := h.dTP
  dF := h.dF
  dT := h.dT
  dP := h.dP
  lo := h.lo
  hi := Nat.lt_of_lt_of_le h.hi hk.size
theorem PebC.below {base pb : Nat} {w w' : World} {vF vT vP : Value} {S : PebT} (h : PebC base w pb vF vT vP S) (hb : Below w.heap.size w w') : PebC base w' pb vF vT vP S :=
  h.kept (Kept.of_below (S := fun _ => False) hb) id (fun _ _ => id) (fun _ _ => id) (fun _ _ => id)
theorem PebAt.below {base pb : Nat} {w w' : World} {S : PebT} (h : PebAt base w pb S) (hb : Below w.heap.size w w') : PebAt base w' pb S := by
  obtain ⟨a, b, c, h⟩ := h
  exact ⟨a, b, c, h.below hb⟩
theorem PebC.setF {base pb g n c : Nat} {w : World} {vT vP : Value} {S : PebT} (h : PebC base w pb (.slice (some ⟨g, 0, none⟩) n c) vT vP S) (i : Nat) (x : Int) : PebC base (w.setCell ⟨g, i, none⟩ (.int .i64 x)) pb (.slice (some ⟨g, 0, none⟩) n c) vT vP (S.1.set i x, S.2) := by
  have e : (Value.slice (some ⟨g, 0, none⟩) n c).ownBlock = some g := rfl
  have n0 : ¬ pb = g := fun he => h.dF (by rw [e, he])
  have nT : ∀ k, vT.ownBlock = some k → ¬ k = g := fun k hk he => h.dFT g e (by rw [hk, he])
  have nP : ∀ k, vP.ownBlock = some k → ¬ k = g := fun k hk he => h.dFP g e (by rw [hk, he])
  have hk : Kept (fun k => k = g) w (w.setCell ⟨g, i, none⟩ (.int .i64 x)) := setKept
  exact ⟨(hk.cell h.hi n0).trans h.c0, (hk.cell h.hi n0).trans h.c1, (hk.cell h.hi n0).trans h.c2, (hk.frozen h.hi n0).trans h.f0, (hk.frozen h.hi n0).trans h.f1, (hk.frozen h.hi n0).trans h.f2,
    h.oF.gset i x, hk.ownsRow h.oT nT, hk.ownsRow h.oP nP, h.dFT, h.dFP, h.dTP, h.dF, h.dT, h.dP, h.lo, Nat.lt_of_lt_of_le h.hi hk.size⟩
theorem PebC.setT {base pb g n c : Nat} {w : World} {vF vP : Value} {S : PebT} (h : PebC base w pb vF (.slice (some ⟨g, 0, none⟩) n c) vP S) (i : Nat) (x : Int) : PebC base (w.setCell ⟨g, i, none⟩ (.int .i64 x)) pb vF (.slice (some ⟨g, 0, none⟩) n c) vP (S.1, S.2.1.set i x, S.2.2) := by
  have e : (Value.slice (some ⟨g, 0, none⟩) n c).ownBlock = some g := rfl
  have n0 : ¬ pb = g := fun he => h.dT (by rw [e, he])
  have nF : ∀ k, vF.ownBlock = some k → ¬ k = g := fun k hk he => h.dFT k hk (by rw [e, he])
  have nP : ∀ k, vP.ownBlock = some k → ¬ k = g := fun k hk he => h.dTP g e (by rw [hk, he])
  have hk : Kept (fun k => k = g) w (w.setCell ⟨g, i, none⟩ (.int .i64 x)) := setKept
  exact ⟨(hk.cell h.hi n0).trans h.c0, (hk.cell h.hi n0).trans h.c1, (hk.cell h.hi n0).trans h.c2, (hk.frozen h.hi n0).trans h.f0, (hk.frozen h.hi n0).trans h.f1, (hk.frozen h.hi n0).trans h.f2,
    hk.ownsRow h.oF nF, h.oT.gset i x, hk.ownsRow h.oP nP, h.dFT, h.dFP, h.dTP, h.dF, h.dT, h.dP, h.lo, Nat.lt_of_lt_of_le h.hi hk.size⟩

/-! ### the map of the search -/
def litI (v : Int) : Lit := .int .i64 v
def putQ (D : DataW Unit) (x : Int × Int) : DataW Unit := D.put (litI x.1) (.lit (litI x.2))
def mapD (q : QuT) : DataW Unit := q.foldl putQ (.map [])
def MapQ (w : World) (b : Nat) (q : QuT) : Prop := w.ownsMap Tryz.prog 3 (plainElem Tryz.prog 3) b q.length (mapD q)
theorem MapQ.below {w w' : World} {b : Nat} {q : QuT} (h : MapQ w b q) (hb : Below w.heap.size w w') : MapQ w' b q :=
  World.ownsMap.kept (row := none) h ⟨hb.os, hb.tape, hb.output, hb.size, fun k hk _ => hb.block k hk⟩ (by simp)
end Go.Proofs.YtfbmpkdjhhcnpaaGreat

namespace Go.Proofs.YtfbmpkdjhhcnpaaGreat
open Go.RowKit
set_option maxRecDepth 100000
set_option linter.unusedVariables false
set_option linter.unusedSimpArgs false

theorem drN_below {B : Nat} {a w : World} (h : Below B a w) (n : Nat) : Below B a (w.drewN n) := h.trans ⟨rfl, rfl, rfl, Nat.le_refl _, fun _ _ => rfl⟩
theorem own1 (w : World) (base : Nat) (x : Int) (h : base ≤ w.heap.size) : OwnInts (w.alloc (.cells #[.int .i64 x] 3)) base (.slice (some ⟨w.heap.size, 0, none⟩) 1 1) [x] :=
  ⟨by simp, .inr ⟨w.heap.size, 1, #[.int .i64 x], rfl, h, heap_alloc_new w _, Nat.le_refl _, by decide, rfl, by simp⟩⟩
theorem Inv.plen {n : Nat} {k : Int} {bars : List BarT} {E : Nat} {S : PebT} (h : Inv n k bars E S) : S.2.2.length ≤ E := by
  have key : ∀ j : Nat, j < S.2.2.length → (j : Int) ≤ gI S.2.2 j := by
    intro j
    induction j with
    | zero => intro hj; obtain ⟨e, he, _⟩ := h.pl 0 hj; rw [he]; omega
    | succ j ih => intro hj; have := h.inc j hj; have := ih (by omega); omega
  rcases Nat.eq_zero_or_pos S.2.2.length with h0 | h0
  · omega
  · obtain ⟨e, he, h1, _⟩ := h.pl (S.2.2.length - 1) (by omega)
    have := key (S.2.2.length - 1) (by omega)
    omega
theorem outer_step {bars : List BarT} {S : PebT} {b : Int} {f i : Nat} {q : QuT} {u : Int × Int} (h : q[i]? = some u) : outer bars S b (f + 1) i q = match inner bars S b u.1 (List.range S.2.2.length) q with | (q', some v) => some (q', v) | (q', none) => outer bars S b f (i + 1) q' := by
  rw [outer]
  simp only [h]
  all_goals (rcases inner bars S b u.1 (List.range S.2.2.length) q with ⟨q', _ | v⟩ <;> rfl)
theorem MapQ.kept {K : Nat → Prop} {w w' : World} {b : Nat} {q : QuT} (h : MapQ w b q) (hk : Kept K w w') (hn : ¬ K b) : MapQ w' b q := by
  have hl := World.ownsMap.lt h
  obtain ⟨es, clock, hb, F, hs, hD⟩ := h
  exact ⟨es, clock, (hk.block b hl hn).trans hb, F, hs, hD⟩
def posQ (q : QuT) (z : Int) : Nat := (q.map (·.1)).findIdx fun v => v == z
theorem posQ_at {q : QuT} (hn : (q.map (·.1)).Nodup) {i : Nat} {u : Int × Int} (h : q[i]? = some u) : posQ q u.1 = i := by
  have hl := lt_of_getElem? h
  have hl2 : i < (q.map (·.1)).length := by simpa using hl
  rw [List.getElem?_eq_getElem hl] at h
  simp only [Option.some.injEq] at h
  have hu : (q.map (·.1))[i] = u.1 := by rw [List.getElem_map, h]
  have hp : (fun v => v == u.1) (q.map (·.1))[i] = true := by simp [hu]
  have hle : posQ q u.1 ≤ i := by
    unfold posQ
    rcases Nat.lt_or_ge i ((q.map (·.1)).findIdx fun v => v == u.1) with h2 | h2
    · exact absurd hp (by simpa using List.not_of_lt_findIdx h2)
    · exact h2
  rcases Nat.lt_or_ge (posQ q u.1) i with h2 | h2
  · have h3 : (q.map (·.1)).findIdx (fun v => v == u.1) < (q.map (·.1)).length := Nat.lt_trans h2 hl2
    have h4 := List.findIdx_getElem (w := h3)
    simp only [beq_iff_eq] at h4
    have h5 := List.pairwise_iff_getElem.1 (List.nodup_iff_pairwise_ne.1 hn) (posQ q u.1) i h3 hl2 h2
    exact absurd (h4.trans hu.symm) h5
  · omega
theorem back_at {q : QuT} {a : Int} {f : Nat} {t : List Int} (h : 0 < f) : back q a f a t = t := by
  obtain ⟨f, rfl⟩ : ∃ g, f = g + 1 := ⟨f - 1, by omega⟩
  rw [back, if_pos rfl]
/-- the blocks that a search may write -/
def PK (vF vT : Value) (b : Nat) : Prop := vF.ownBlock = some b ∨ vT.ownBlock = some b
theorem drop_range {m i : Nat} (h : i < m) : (List.range m).drop i = i :: (List.range m).drop (i + 1) := by
  rw [List.drop_eq_getElem_cons (by simpa using h), List.getElem_range]
theorem get_map1 {q : QuT} {j : Nat} {u : Int × Int} (h : q[j]? = some u) : gI (q.map (·.1)) j = u.1 := by
  unfold gI; rw [List.getElem?_map, h]; rfl

end Go.Proofs.YtfbmpkdjhhcnpaaGreat


namespace Go.Proofs.YtfbmpkdjhhcnpaaGreat
open Go.RowKit
set_option maxRecDepth 100000
set_option linter.unusedVariables false
set_option linter.unusedSimpArgs false

/-- three slices of a call's own, apart -/
structure Peb3 (base : Nat) (w : World) (vF vT vP : Value) (S : PebT) : Prop where
  oF : OwnInts w base vF S.1
  oT : OwnInts w base vT S.2.1
  oP : OwnInts w base vP S.2.2
  dFT : ∀ k, vF.ownBlock = some k → vT.ownBlock ≠ some k
  dFP : ∀ k, vF.ownBlock = some k → vP.ownBlock ≠ some k
  dTP : ∀ k, vT.ownBlock = some k → vP.ownBlock ≠ some k
def OwnPeb (base : Nat) (w : World) (v : Value) (S : PebT) : Prop := ∃ vF vT vP, v = .agg #[vF, vT, vP] ∧ Peb3 base w vF vT vP S
def RetPeb (W : World) (S : PebT) (e : Ending) (w' : World) : Prop := ∃ v, e = .returned v ∧ OwnPeb W.heap.size w' v S ∧ Below W.heap.size W w'
theorem Peb3.kept {K : Nat → Prop} {base : Nat} {w w' : World} {vF vT vP : Value} {S : PebT} (h : Peb3 base w vF vT vP S) (hk : Kept K w w') (hF : ∀ k, vF.ownBlock = some k → ¬ K k) (hT : ∀ k, vT.ownBlock = some k → ¬ K k) (hP : ∀ k, vP.ownBlock = some k → ¬ K k) : Peb3 base w' vF vT vP S :=
  ⟨hk.ownsRow h.oF hF, hk.ownsRow h.oT hT, hk.ownsRow h.oP hP, h.dFT, h.dFP, h.dTP⟩
theorem Peb3.below {base : Nat} {w w' : World} {vF vT vP : Value} {S : PebT} (h : Peb3 base w vF vT vP S) (hb : Below w.heap.size w w') : Peb3 base w' vF vT vP S :=
  h.kept (Kept.of_below (S := fun _ => False) hb) (fun _ _ => id) (fun _ _ => id) (fun _ _ => id)
/-- three slices that read so -/
structure PebIs (w : World) (vF vT vP : Value) (S : PebT) : Prop where
  iF : IsInts w vF S.1
  iT : IsInts w vT S.2.1
  iP : IsInts w vP S.2.2
theorem PebIs.below {w w' : World} {vF vT vP : Value} {S : PebT} (h : PebIs w vF vT vP S) (hb : Below w.heap.size w w') : PebIs w' vF vT vP S := ⟨h.iF.below hb, h.iT.below hb, h.iP.below hb⟩
theorem Peb3.is {base : Nat} {w : World} {vF vT vP : Value} {S : PebT} (h : Peb3 base w vF vT vP S) : PebIs w vF vT vP S := ⟨h.oF.form, h.oT.form, h.oP.form⟩

/-- the cells of a struct of three slices that stands for a result -/
def ZerP (w : World) (g : Nat) : Prop := (∃ a b c, w.cell? ⟨g, 0, none⟩ = some a ∧ w.cell? ⟨g, 1, none⟩ = some b ∧ w.cell? ⟨g, 2, none⟩ = some c) ∧ (w.frozen? ⟨g, 0, none⟩ = false ∧ w.frozen? ⟨g, 1, none⟩ = false ∧ w.frozen? ⟨g, 2, none⟩ = false) ∧ g < w.heap.size
theorem ZerP.at3 (w : World) (ty : TypeId) (a b c : Value) : ZerP (w.alloc (.cells #[a, b, c] ty)) w.heap.size :=
  ⟨⟨a, b, c, by simp [World.cell?_alloc_new], by simp [World.cell?_alloc_new], by simp [World.cell?_alloc_new]⟩, ⟨by simp [World.frozen?_alloc_new], by simp [World.frozen?_alloc_new], by simp [World.frozen?_alloc_new]⟩, by simp⟩
theorem ZerP.at (w : World) (ty : TypeId) : ZerP (w.alloc (.cells #[.slice none 0 0, .slice none 0 0, .slice none 0 0] ty)) w.heap.size := ZerP.at3 w ty _ _ _
theorem ZerP.kept {S : Nat → Prop} {w w' : World} {g : Nat} (h : ZerP w g) (hk : Kept S w w') (hs : ¬ S g) : ZerP w' g := by
  obtain ⟨⟨a, b, c, c0, c1, c2⟩, ⟨f0, f1, f2⟩, hz⟩ := h
  exact ⟨⟨a, b, c, (hk.cell hz hs).trans c0, (hk.cell hz hs).trans c1, (hk.cell hz hs).trans c2⟩, ⟨(hk.frozen hz hs).trans f0, (hk.frozen hz hs).trans f1, (hk.frozen hz hs).trans f2⟩, Nat.lt_of_lt_of_le hz hk.size⟩
theorem ZerP.below {w w' : World} {g : Nat} (h : ZerP w g) (hb : Below w.heap.size w w') : ZerP w' g := h.kept (Kept.of_below (S := fun _ => False) hb) id
theorem Peb3.set {base : Nat} {w : World} {vF vT vP : Value} {S : PebT} (h : Peb3 base w vF vT vP S) {p : Addr} (hp : p.block < base) (u : Value) : Peb3 base (w.setCell p u) vF vT vP S :=
  ⟨ownsRow_setCell_below h.oF hp u, ownsRow_setCell_below h.oT hp u, ownsRow_setCell_below h.oP hp u, h.dFT, h.dFP, h.dTP⟩
theorem Peb3.low {base base' : Nat} {w : World} {vF vT vP : Value} {S : PebT} (h : Peb3 base w vF vT vP S) (hb : base' ≤ base) : Peb3 base' w vF vT vP S :=
  ⟨ownsRow_base h.oF hb, ownsRow_base h.oT hb, ownsRow_base h.oP hb, h.dFT, h.dFP, h.dTP⟩

theorem laidP {W w : World} {vF vT vP : Value} {S : PebT} {lo g : Nat} (h : Peb3 lo w vF vT vP S) (hg : W.heap.size ≤ g) (hgl : g < lo) (hlo : W.heap.size ≤ lo) (hbe : Below W.heap.size W w) :
    OwnPeb W.heap.size (((w.setCell ⟨g, 0, none⟩ vF).setCell ⟨g, 1, none⟩ vT).setCell ⟨g, 2, none⟩ vP) (.agg #[vF, vT, vP]) S ∧ Below W.heap.size W (((w.setCell ⟨g, 0, none⟩ vF).setCell ⟨g, 1, none⟩ vT).setCell ⟨g, 2, none⟩ vP) :=
  ⟨⟨_, _, _, rfl, (((h.set (p := ⟨g, 0, none⟩) hgl _).set (p := ⟨g, 1, none⟩) hgl _).set (p := ⟨g, 2, none⟩) hgl _).low hlo⟩, ((hbe.setCell (p := ⟨g, 0, none⟩) hg _).setCell (p := ⟨g, 1, none⟩) hg _).setCell (p := ⟨g, 2, none⟩) hg _⟩

theorem gatherP_stop {l : List BarT} {x y want : Int} {S : PebT} (h : ¬ gI S.1 x.toNat + gI S.1 y.toNat < want) : ∀ f, gatherP l x y want f S = (S, true)
  | 0 => rfl
  | f + 1 => by rw [gatherP, if_neg h]
theorem gatherP_go1 {l : List BarT} {x y want : Int} {S S' : PebT} {f : Nat} (h : gI S.1 x.toNat + gI S.1 y.toNat < want) (h1 : findP l x y S = some S') : gatherP l x y want (f + 1) S = gatherP l x y want f S' := by
  rw [gatherP, if_pos h]; simp only [h1]
theorem gatherP_go2 {l : List BarT} {x y want : Int} {S S' : PebT} {f : Nat} (h : gI S.1 x.toNat + gI S.1 y.toNat < want) (h1 : findP l x y S = none) (h2 : findP l y x S = some S') : gatherP l x y want (f + 1) S = gatherP l x y want f S' := by
  rw [gatherP, if_pos h]; simp only [h1, h2]
theorem gatherP_no {l : List BarT} {x y want : Int} {S : PebT} {f : Nat} (h : gI S.1 x.toNat + gI S.1 y.toNat < want) (h1 : findP l x y S = none) (h2 : findP l y x S = none) : gatherP l x y want (f + 1) S = (S, false) := by
  rw [gatherP, if_pos h]; simp only [h1, h2]

end Go.Proofs.YtfbmpkdjhhcnpaaGreat

namespace Go.Proofs.YtfbmpkdjhhcnpaaGreat
open Go.RowKit
set_option maxRecDepth 100000
set_option linter.unusedVariables false
set_option linter.unusedSimpArgs false

theorem PebC.own {base pb : Nat} {w : World} {vF vT vP : Value} {S : PebT} (h : PebC base w pb vF vT vP S) : Peb3 base w vF vT vP S := ⟨h.oF, h.oT, h.oP, h.dFT, h.dFP, h.dTP⟩
theorem PebC.appT {base pb : Nat} {w w' : World} {vF vT vP v' : Value} {S : PebT} {y : Int} (h : PebC base w pb vF vT vP S) (hb : base ≤ w.heap.size) (ho : OwnInts w' base v' (S.2.1 ++ [y])) (hk : Kept (fun k => some k = vT.ownBlock) w w') (ha : v'.ownBlock = vT.ownBlock ∨ ∀ b, v'.ownBlock = some b → w.heap.size ≤ b) :
    PebC base (w'.setCell ⟨pb, 1, none⟩ v') pb vF v' vP (S.1, S.2.1 ++ [y], S.2.2) := by
  have n0 : ¬ some pb = vT.ownBlock := fun e => h.dT e.symm
  have nF : ∀ k, vF.ownBlock = some k → ¬ some k = vT.ownBlock := fun k hk e => h.dFT k hk e.symm
  have nP : ∀ k, vP.ownBlock = some k → ¬ some k = vT.ownBlock := fun k hk e => h.dTP k e.symm hk
  have q1 := (hk.cell h.hi n0).trans h.c1
  have ks : Kept (fun k => k = pb) w' (w'.setCell ⟨pb, 1, none⟩ v') := setKept
  have hF' : ∀ k, vF.ownBlock = some k → v'.ownBlock ≠ some k := fun k hk1 e => by
    rcases ha with ha | ha
    · exact h.dFT k hk1 (ha.symm.trans e)
    · have := ha k e; have := (h.oF.lt k hk1).2; omega
  have hP' : ∀ k, v'.ownBlock = some k → vP.ownBlock ≠ some k := fun k hk1 e => by
    rcases ha with ha | ha
    · exact h.dTP k (ha.symm.trans hk1) e
    · have := ha k hk1; have := (h.oP.lt k e).2; omega
  have hp' : v'.ownBlock ≠ some pb := fun e => by
    rcases ha with ha | ha
    · exact h.dT (ha.symm.trans e)
    · have := ha pb e; have := h.hi; omega
  exact ⟨(World.cell?_setCell_other _ _ _ _ (by simp)).trans ((hk.cell h.hi n0).trans h.c0), cellSame q1, (World.cell?_setCell_other _ _ _ _ (by simp)).trans ((hk.cell h.hi n0).trans h.c2),
    (World.frozen?_setCell _ _ _ _).trans ((hk.frozen h.hi n0).trans h.f0), (World.frozen?_setCell _ _ _ _).trans ((hk.frozen h.hi n0).trans h.f1), (World.frozen?_setCell _ _ _ _).trans ((hk.frozen h.hi n0).trans h.f2),
    ks.ownsRow (hk.ownsRow h.oF nF) fun k hk1 e => h.dF (by rw [hk1, e]), ks.ownsRow ho fun k hk1 e => hp' (by rw [hk1, e]), ks.ownsRow (hk.ownsRow h.oP nP) fun k hk1 e => h.dP (by rw [hk1, e]),
    hF', h.dFP, hP', h.dF, hp', h.dP, h.lo, Nat.lt_of_lt_of_le (Nat.lt_of_lt_of_le h.hi hk.size) ks.size⟩
theorem PebC.appP {base pb : Nat} {w w' : World} {vF vT vP v' : Value} {S : PebT} {y : Int} (h : PebC base w pb vF vT vP S) (hb : base ≤ w.heap.size) (ho : OwnInts w' base v' (S.2.2 ++ [y])) (hk : Kept (fun k => some k = vP.ownBlock) w w') (ha : v'.ownBlock = vP.ownBlock ∨ ∀ b, v'.ownBlock = some b → w.heap.size ≤ b) :
    PebC base (w'.setCell ⟨pb, 2, none⟩ v') pb vF vT v' (S.1, S.2.1, S.2.2 ++ [y]) := by
  have n0 : ¬ some pb = vP.ownBlock := fun e => h.dP e.symm
  have nF : ∀ k, vF.ownBlock = some k → ¬ some k = vP.ownBlock := fun k hk e => h.dFP k hk e.symm
  have nT : ∀ k, vT.ownBlock = some k → ¬ some k = vP.ownBlock := fun k hk e => h.dTP k hk e.symm
  have q1 := (hk.cell h.hi n0).trans h.c2
  have ks : Kept (fun k => k = pb) w' (w'.setCell ⟨pb, 2, none⟩ v') := setKept
  have hF' : ∀ k, vF.ownBlock = some k → v'.ownBlock ≠ some k := fun k hk1 e => by
    rcases ha with ha | ha
    · exact h.dFP k hk1 (ha.symm.trans e)
    · have := ha k e; have := (h.oF.lt k hk1).2; omega
  have hT' : ∀ k, vT.ownBlock = some k → v'.ownBlock ≠ some k := fun k hk1 e => by
    rcases ha with ha | ha
    · exact h.dTP k hk1 (ha.symm.trans e)
    · have := ha k e; have := (h.oT.lt k hk1).2; omega
  have hp' : v'.ownBlock ≠ some pb := fun e => by
    rcases ha with ha | ha
    · exact h.dP (ha.symm.trans e)
    · have := ha pb e; have := h.hi; omega
  exact ⟨(World.cell?_setCell_other _ _ _ _ (by simp)).trans ((hk.cell h.hi n0).trans h.c0), (World.cell?_setCell_other _ _ _ _ (by simp)).trans ((hk.cell h.hi n0).trans h.c1), cellSame q1,
    (World.frozen?_setCell _ _ _ _).trans ((hk.frozen h.hi n0).trans h.f0), (World.frozen?_setCell _ _ _ _).trans ((hk.frozen h.hi n0).trans h.f1), (World.frozen?_setCell _ _ _ _).trans ((hk.frozen h.hi n0).trans h.f2),
    ks.ownsRow (hk.ownsRow h.oF nF) fun k hk1 e => h.dF (by rw [hk1, e]), ks.ownsRow (hk.ownsRow h.oT nT) fun k hk1 e => h.dT (by rw [hk1, e]), ks.ownsRow ho fun k hk1 e => hp' (by rw [hk1, e]),
    h.dFT, hF', hT', h.dF, h.dT, hp', h.lo, Nat.lt_of_lt_of_le (Nat.lt_of_lt_of_le h.hi hk.size) ks.size⟩
end Go.Proofs.YtfbmpkdjhhcnpaaGreat

namespace Go.Proofs.YtfbmpkdjhhcnpaaGreat
open Go.RowKit
set_option maxRecDepth 100000
set_option linter.unusedVariables false
set_option linter.unusedSimpArgs false

theorem PebC.appF {base pb : Nat} {w w' : World} {vF vT vP v' : Value} {S : PebT} {y : Int} (h : PebC base w pb vF vT vP S) (hb : base ≤ w.heap.size) (ho : OwnInts w' base v' (S.1 ++ [y])) (hk : Kept (fun k => some k = vF.ownBlock) w w') (ha : v'.ownBlock = vF.ownBlock ∨ ∀ b, v'.ownBlock = some b → w.heap.size ≤ b) :
    PebC base (w'.setCell ⟨pb, 0, none⟩ v') pb v' vT vP (S.1 ++ [y], S.2) := by
  have n0 : ¬ some pb = vF.ownBlock := fun e => h.dF e.symm
  have nT : ∀ k, vT.ownBlock = some k → ¬ some k = vF.ownBlock := fun k hk e => h.dFT k e.symm hk
  have nP : ∀ k, vP.ownBlock = some k → ¬ some k = vF.ownBlock := fun k hk e => h.dFP k e.symm hk
  have q1 := (hk.cell h.hi n0).trans h.c0
  have ks : Kept (fun k => k = pb) w' (w'.setCell ⟨pb, 0, none⟩ v') := setKept
  have hT' : ∀ k, v'.ownBlock = some k → vT.ownBlock ≠ some k := fun k hk1 e => by
    rcases ha with ha | ha
    · exact h.dFT k (ha.symm.trans hk1) e
    · have := ha k hk1; have := (h.oT.lt k e).2; omega
  have hP' : ∀ k, v'.ownBlock = some k → vP.ownBlock ≠ some k := fun k hk1 e => by
    rcases ha with ha | ha
    · exact h.dFP k (ha.symm.trans hk1) e
    · have := ha k hk1; have := (h.oP.lt k e).2; omega
  have hp' : v'.ownBlock ≠ some pb := fun e => by
    rcases ha with ha | ha
    · exact h.dF (ha.symm.trans e)
    · have := ha pb e; have := h.hi; omega
  exact ⟨cellSame q1, (World.cell?_setCell_other _ _ _ _ (by simp)).trans ((hk.cell h.hi n0).trans h.c1), (World.cell?_setCell_other _ _ _ _ (by simp)).trans ((hk.cell h.hi n0).trans h.c2),
    (World.frozen?_setCell _ _ _ _).trans ((hk.frozen h.hi n0).trans h.f0), (World.frozen?_setCell _ _ _ _).trans ((hk.frozen h.hi n0).trans h.f1), (World.frozen?_setCell _ _ _ _).trans ((hk.frozen h.hi n0).trans h.f2),
    ks.ownsRow ho fun k hk1 e => hp' (by rw [hk1, e]), ks.ownsRow (hk.ownsRow h.oT nT) fun k hk1 e => h.dT (by rw [hk1, e]), ks.ownsRow (hk.ownsRow h.oP nP) fun k hk1 e => h.dP (by rw [hk1, e]),
    hT', hP', h.dTP, hp', h.dT, h.dP, h.lo, Nat.lt_of_lt_of_le (Nat.lt_of_lt_of_le h.hi hk.size) ks.size⟩
/-- three slices laid into the place of a struct -/
theorem PebC.lay {base lo pb : Nat} {w : World} {vF vT vP : Value} {S : PebT} (h : Peb3 lo w vF vT vP S) (hz : ZerP w pb) (h1 : base ≤ pb) (h2 : pb < lo) : PebC base (((w.setCell ⟨pb, 0, none⟩ vF).setCell ⟨pb, 1, none⟩ vT).setCell ⟨pb, 2, none⟩ vP) pb vF vT vP S := by
  obtain ⟨⟨a, b, c, c0, c1, c2⟩, ⟨f0, f1, f2⟩, hzz⟩ := hz
  have h3 := (((h.set (p := ⟨pb, 0, none⟩) h2 vF).set (p := ⟨pb, 1, none⟩) h2 vT).set (p := ⟨pb, 2, none⟩) h2 vP)
  have hl := h3.low (Nat.le_of_lt (Nat.lt_of_le_of_lt h1 h2))
  refine ⟨?_, ?_, ?_, ?_, ?_, ?_, hl.oF, hl.oT, hl.oP, h.dFT, h.dFP, h.dTP, fun e => ?_, fun e => ?_, fun e => ?_, h1, by simpa using hzz⟩
  · rw [World.cell?_setCell_other _ _ _ _ (by simp), World.cell?_setCell_other _ _ _ _ (by simp)]; exact cellSame c0
  · rw [World.cell?_setCell_other _ _ _ _ (by simp)]; exact cellSame (by rw [World.cell?_setCell_other _ _ _ _ (by simp)]; exact c1)
  · exact cellSame (by rw [World.cell?_setCell_other _ _ _ _ (by simp), World.cell?_setCell_other _ _ _ _ (by simp)]; exact c2)
  · rw [World.frozen?_setCell, World.frozen?_setCell, World.frozen?_setCell]; exact f0
  · rw [World.frozen?_setCell, World.frozen?_setCell, World.frozen?_setCell]; exact f1
  · rw [World.frozen?_setCell, World.frozen?_setCell, World.frozen?_setCell]; exact f2
  · have := (h.oF.lt pb e).1; omega
  · have := (h.oT.lt pb e).1; omega
  · have := (h.oP.lt pb e).1; omega
/-- .. into a new block -/
theorem PebC.new {base lo : Nat} {w : World} {vF vT vP : Value} {S : PebT} (h : Peb3 lo w vF vT vP S) (h1 : base ≤ lo) (h2 : base ≤ w.heap.size) : PebC base (w.alloc (.cells #[vF, vT, vP] 117)) w.heap.size vF vT vP S := by
  have hb := belAl w (.cells #[vF, vT, vP] 117)
  have h3 := (h.below hb).low h1
  exact ⟨by simp [World.cell?_alloc_new], by simp [World.cell?_alloc_new], by simp [World.cell?_alloc_new], by simp [World.frozen?_alloc_new], by simp [World.frozen?_alloc_new], by simp [World.frozen?_alloc_new], h3.oF, h3.oT, h3.oP, h.dFT, h.dFP, h.dTP,
    fun e => by have := (h.oF.lt _ e).2; omega, fun e => by have := (h.oT.lt _ e).2; omega, fun e => by have := (h.oP.lt _ e).2; omega, h2, by simp⟩
theorem ZerP.of {base pb : Nat} {w : World} {vF vT vP : Value} {S : PebT} (h : PebC base w pb vF vT vP S) : ZerP w pb := ⟨⟨_, _, _, h.c0, h.c1, h.c2⟩, ⟨h.f0, h.f1, h.f2⟩, h.hi⟩
theorem ZerP.belowAt {B : Nat} {w w' : World} {g : Nat} (h : ZerP w g) (hb : Below B w w') (hg : g < B) : ZerP w' g := by
  obtain ⟨⟨a, b, c, c0, c1, c2⟩, ⟨f0, f1, f2⟩, hz⟩ := h
  exact ⟨⟨a, b, c, (hb.cell (p := ⟨g, 0, none⟩) hg).trans c0, (hb.cell (p := ⟨g, 1, none⟩) hg).trans c1, (hb.cell (p := ⟨g, 2, none⟩) hg).trans c2⟩, ⟨(hb.frozen (p := ⟨g, 0, none⟩) hg).trans f0, (hb.frozen (p := ⟨g, 1, none⟩) hg).trans f1, (hb.frozen (p := ⟨g, 2, none⟩) hg).trans f2⟩, Nat.lt_of_lt_of_le hz hb.size⟩
theorem Peb3.nil (w : World) (base : Nat) : Peb3 base w (.slice none 0 0) (.slice none 0 0) (.slice none 0 0) ([], [], []) :=
  ⟨OwnInts.nil _ _, OwnInts.nil _ _, OwnInts.nil _ _, fun k h => by simp [Value.ownBlock] at h, fun k h => by simp [Value.ownBlock] at h, fun k h => by simp [Value.ownBlock] at h⟩
theorem playTo_succ {bars : List BarT} {l : Int} {S0 : PebT} {e : Nat} : playTo bars l S0 (e + 1) = (placeP bars l (playTo bars l S0 e) e).getD (playTo bars l S0 e) := rfl

end Go.Proofs.YtfbmpkdjhhcnpaaGreat


