/- The pebble game in plain words: searching, turning a path round, gathering, placing. No program in sight. -/
import Derived.Test.YtfbmpkdjhhcnpaaGreatSnP05
import Derived.Test.YtfbmpkdjhhcnpaaGreatSnP01
import Derived.Test.YtfbmpkdjhhcnpaaGreatSnP02
import Derived.Maps.OwnSet
import Derived.Maps.OwnOps
import Derived.Deep.RegionLaw
import Derived.BigRegion
import Derived.OrdersHeld
import Derived.StillTail
import Derived.Lib.Hide
import Derived.Test.YtfbmpkdjhhcnpaaGreatSnP04
import Derived.Deep.RegionHeld3
import Derived.Test.YtfbmpkdjhhcnpaaGreatSnP06
import Derived.Test.YtfbmpkdjhhcnpaaGreatSnP09
namespace Go.Proofs.YtfbmpkdjhhcnpaaGreat
open Go.RowKit
set_option maxRecDepth 100000
set_option linter.unusedVariables false
set_option linter.unusedSimpArgs false

abbrev PebT := List Int × List Int × List Int
def gI (l : List Int) (i : Nat) : Int := l[i]?.getD 0
def gB (l : List BarT) (i : Nat) : BarT := l[i]?.getD (0, 0)
def othB (x : BarT) (v : Int) : Int := if x.1 = v then x.2 else x.1
def hop (bars : List BarT) (S : PebT) (j : Nat) : Int := othB (gB bars (gI S.2.2 j).toNat) (gI S.2.1 j)
abbrev QuT := List (Int × Int)
def seenQ (q : QuT) (v : Int) : Bool := q.any fun x => x.1 == v
def inner (bars : List BarT) (S : PebT) (b u : Int) : List Nat → QuT → QuT × Option Int
  | [], q => (q, none)
  | j :: js, q => if gI S.2.1 j = u then
      (if seenQ q (hop bars S j) = true then inner bars S b u js q
       else if hop bars S j = b ∨ gI S.1 (hop bars S j).toNat = 0 then inner bars S b u js (q ++ [(hop bars S j, (j : Int))])
       else (q ++ [(hop bars S j, (j : Int))], some (hop bars S j)))
    else inner bars S b u js q
def outer (bars : List BarT) (S : PebT) (b : Int) : Nat → Nat → QuT → Option (QuT × Int)
  | 0, _, _ => none
  | f + 1, i, q => match q[i]? with
    | none => none
    | some x => match inner bars S b x.1 (List.range S.2.2.length) q with
      | (q', some v) => some (q', v)
      | (q', none) => outer bars S b f (i + 1) q'
def frm (q : QuT) (v : Int) : Int := match q.find? (fun x => x.1 == v) with | some x => x.2 | none => 0
def back (q : QuT) (a : Int) : Nat → Int → List Int → List Int
  | 0, _, t => t
  | f + 1, v, t => if v = a then t else back q a f (gI t (frm q v).toNat) (t.set (frm q v).toNat v)
def movF (l : List Int) (v a : Int) : List Int := (l.set v.toNat (gI l v.toNat - 1)).set a.toNat (gI (l.set v.toNat (gI l v.toNat - 1)) a.toNat + 1)
def findP (bars : List BarT) (a b : Int) (S : PebT) : Option PebT := match outer bars S b 10 0 [(a, -1)] with
  | none => none
  | some (q, v) => some (movF S.1 v a, back q a 10 v S.2.1, S.2.2)
def gatherP (bars : List BarT) (a b want : Int) : Nat → PebT → PebT × Bool
  | 0, S => (S, true)
  | f + 1, S => if gI S.1 a.toNat + gI S.1 b.toNat < want then
      (match findP bars a b S with
      | some S' => gatherP bars a b want f S'
      | none => match findP bars b a S with
        | some S' => gatherP bars a b want f S'
        | none => (S, false))
    else (S, true)
def layP (S : PebT) (t : Int) (e : Nat) : PebT := (S.1.set t.toNat (gI S.1 t.toNat - 1), S.2.1 ++ [t], S.2.2 ++ [(e : Int)])
def placeP (bars : List BarT) (l : Int) (S : PebT) (e : Nat) : Option PebT := match gatherP bars (gB bars e).1 (gB bars e).2 (l + 1) 7 S with
  | (S', true) => some (layP S' (if gI S'.1 (gB bars e).1.toNat = 0 then (gB bars e).2 else (gB bars e).1) e)
  | (_, false) => none
def playTo (bars : List BarT) (l : Int) (S0 : PebT) : Nat → PebT
  | 0 => S0
  | e + 1 => (placeP bars l (playTo bars l S0 e) e).getD (playTo bars l S0 e)
def playP (n : Nat) (bars : List BarT) (k l : Int) : PebT := playTo bars l (List.replicate n k, [], []) bars.length

def Bok (n : Nat) (bars : List BarT) : Prop := ∀ e : Nat, e < bars.length → 0 ≤ (gB bars e).1 ∧ (gB bars e).1 < (gB bars e).2 ∧ (gB bars e).2 < n
def dl (x y : Int) : Nat := if x = y then 1 else 0
structure Inv (n : Nat) (k : Int) (bars : List BarT) (E : Nat) (S : PebT) : Prop where
  len : S.1.length = n
  tl : S.2.1.length = S.2.2.length
  pl : ∀ j : Nat, j < S.2.2.length → ∃ e : Nat, gI S.2.2 j = e ∧ e < E ∧ (gI S.2.1 j = (gB bars e).1 ∨ gI S.2.1 j = (gB bars e).2)
  inc : ∀ j : Nat, j + 1 < S.2.2.length → gI S.2.2 j < gI S.2.2 (j + 1)
  fr : ∀ v : Nat, v < n → 0 ≤ gI S.1 v ∧ gI S.1 v + (S.2.1.count (v : Int) : Nat) = k
theorem Inv.hp {n : Nat} {k : Int} {bars : List BarT} {E : Nat} {S : PebT} (h : Inv n k bars E S) (hb : Bok n bars) (hE : E ≤ bars.length) {j : Nat} (hj : j < S.2.2.length) :
    (0 ≤ gI S.2.1 j ∧ gI S.2.1 j < n) ∧ (0 ≤ hop bars S j ∧ hop bars S j < n) ∧ hop bars S j ≠ gI S.2.1 j ∧ ∃ e : Nat, gI S.2.2 j = e ∧ e < bars.length ∧ (gB bars e).1 + (gB bars e).2 - gI S.2.1 j = hop bars S j ∧ (hop bars S j = (gB bars e).1 ∨ hop bars S j = (gB bars e).2) := by
  obtain ⟨e, he, hE2, ht⟩ := h.pl j hj
  have hbe := hb e (by omega)
  have hh : hop bars S j = othB (gB bars e) (gI S.2.1 j) := by
    show othB (gB bars (gI S.2.2 j).toNat) (gI S.2.1 j) = _
    rw [he, Int.toNat_natCast]
  unfold othB at hh
  rcases ht with ht | ht
  · rw [ht, if_pos rfl] at hh
    rw [ht, hh]
    exact ⟨⟨by omega, by omega⟩, ⟨by omega, by omega⟩, by omega, e, he, by omega, by omega, .inr rfl⟩
  · rw [ht, if_neg (by omega)] at hh
    rw [ht, hh]
    exact ⟨⟨by omega, by omega⟩, ⟨by omega, by omega⟩, by omega, e, he, by omega, by omega, .inl rfl⟩
theorem seenQ_iff {q : QuT} {v : Int} : seenQ q v = true ↔ v ∈ q.map (·.1) := by
  unfold seenQ
  rw [List.any_eq_true, List.mem_map]
  constructor
  · rintro ⟨x, hx, h⟩; exact ⟨x, hx, by simpa using h⟩
  · rintro ⟨x, hx, h⟩; exact ⟨x, hx, by simpa using h⟩
structure QI (n : Nat) (bars : List BarT) (S : PebT) (a : Int) (q : QuT) : Prop where
  hd : q[0]? = some (a, -1)
  nd : (q.map (·.1)).Nodup
  bd : ∀ x ∈ q, 0 ≤ x.1 ∧ x.1 < n
  up : ∀ (i : Nat) x, q[i]? = some x → i ≠ 0 → ∃ j i' y, x.2 = ((j : Nat) : Int) ∧ j < S.2.2.length ∧ i' < i ∧ q[i']? = some y ∧ gI S.2.1 j = y.1 ∧ hop bars S j = x.1
theorem QI.start {n : Nat} {bars : List BarT} {S : PebT} {a : Int} (h0 : 0 ≤ a) (h1 : a < n) : QI n bars S a [(a, -1)] where
  hd := rfl
  nd := by simp
  bd := by simp; omega
  up := fun i x h hi => by
    cases i with
    | zero => exact absurd rfl hi
    | succ i => simp at h
theorem QI.snoc {n : Nat} {k : Int} {bars : List BarT} {E : Nat} {S : PebT} {a : Int} {q : QuT} (h : QI n bars S a q) (hI : Inv n k bars E S) (hb : Bok n bars) (hE : E ≤ bars.length) {i j : Nat} {y : Int × Int} (hi : q[i]? = some y) (hj : j < S.2.2.length) (ht : gI S.2.1 j = y.1) (hs : ¬ seenQ q (hop bars S j) = true) :
    QI n bars S a (q ++ [(hop bars S j, (j : Int))]) where
  hd := by
    have h0 : 0 < q.length := by
      have := h.hd
      rcases q with _ | ⟨x, t⟩
      · simp at this
      · simp
    rw [List.getElem?_append_left h0]; exact h.hd
  nd := by
    rw [List.map_append, List.nodup_append]
    refine ⟨h.nd, by simp, ?_⟩
    intro x hx z hz
    simp at hz
    subst hz
    intro e
    subst e
    exact hs (seenQ_iff.2 hx)
  bd := by
    intro x hx
    simp at hx
    rcases hx with hx | rfl
    · exact h.bd x hx
    · exact (hI.hp hb hE hj).2.1
  up := by
    intro i' x hx hi0
    rcases Nat.lt_or_ge i' q.length with hl | hl
    · rw [List.getElem?_append_left hl] at hx
      obtain ⟨j', i'', y', h1, h2, h3, h4, h5⟩ := h.up i' x hx hi0
      exact ⟨j', i'', y', h1, h2, h3, by rw [List.getElem?_append_left (by omega)]; exact h4, h5⟩
    · rw [List.getElem?_append_right hl] at hx
      have : i' - q.length = 0 := by
        rcases Nat.eq_zero_or_pos (i' - q.length) with e | e
        · exact e
        · rw [List.getElem?_eq_none (by simp; omega)] at hx; cases hx
      rw [this] at hx
      simp at hx
      subst hx
      have hil := lt_of_getElem? hi
      exact ⟨j, i, y, rfl, hj, by omega, by rw [List.getElem?_append_left hil]; exact hi, ht, rfl⟩
theorem filt_len (n : Int) : ∀ l : List Int, (l.filter fun x => !(x == n)).length + l.count n = l.length
  | [] => rfl
  | x :: t => by
    have ih := filt_len n t
    rw [List.filter_cons, List.count_cons]
    by_cases h : x = n
    · subst h
      simp
      omega
    · have e : (x == n) = false := by simpa using h
      simp [e]
      omega
theorem nodup_le : ∀ (n : Nat) (l : List Int), l.Nodup → (∀ x ∈ l, 0 ≤ x ∧ x < n) → l.length ≤ n
  | 0, l, _, h => by
    cases l with
    | nil => simp
    | cons x t => have := h x (by simp); omega
  | n + 1, l, hn, h => by
    have h1 := nodup_le n (l.filter fun x => !(x == (n : Int))) (hn.filter _) (fun x hx => by
      rw [List.mem_filter] at hx
      have := h x hx.1
      have h2 : x ≠ (n : Int) := by simpa using hx.2
      omega)
    have h2 : (l.filter fun x => !(x == (n : Int))).length + l.count (n : Int) = l.length := by
      exact filt_len _ _
    have h3 : l.count (n : Int) ≤ 1 := List.nodup_iff_count.1 hn _
    omega
theorem QI.le {n : Nat} {bars : List BarT} {S : PebT} {a : Int} {q : QuT} (h : QI n bars S a q) : q.length ≤ n := by
  have := nodup_le n (q.map (·.1)) h.nd (fun x hx => by
    rw [List.mem_map] at hx
    obtain ⟨y, hy, rfl⟩ := hx
    exact h.bd y hy)
  simpa using this
theorem frm_at {n : Nat} {bars : List BarT} {S : PebT} {a : Int} {q : QuT} (h : QI n bars S a q) {i : Nat} {x : Int × Int} (hi : q[i]? = some x) : frm q x.1 = x.2 := by
  unfold frm
  have hnd := h.nd
  clear h
  induction q generalizing i with
  | nil => simp at hi
  | cons y t ih =>
    rw [List.find?_cons]
    cases i with
    | zero =>
      simp at hi; subst hi
      simp
    | succ i =>
      simp at hi
      have hne : y.1 ≠ x.1 := by
        intro e
        rw [List.map_cons, List.nodup_cons] at hnd
        exact hnd.1 (by rw [e]; exact List.mem_map.2 ⟨x, List.mem_of_getElem? hi, rfl⟩)
      have : (y.1 == x.1) = false := by simpa using hne
      rw [this]
      rw [List.map_cons, List.nodup_cons] at hnd
      exact ih hi hnd.2
theorem inner_QI {n : Nat} {k : Int} {bars : List BarT} {E : Nat} {S : PebT} {a b : Int} (hI : Inv n k bars E S) (hb : Bok n bars) (hE : E ≤ bars.length) {y : Int × Int} : ∀ (js : List Nat) {q : QuT} {i : Nat}, QI n bars S a q → q[i]? = some y → (∀ j ∈ js, j < S.2.2.length) →
    QI n bars S a (inner bars S b y.1 js q).1 ∧ (∀ (i : Nat) x, q[i]? = some x → (inner bars S b y.1 js q).1[i]? = some x) ∧ ∀ v, (inner bars S b y.1 js q).2 = some v → v ≠ a ∧ v ≠ b ∧ (0 ≤ v ∧ v < n) ∧ gI S.1 v.toNat ≠ 0 ∧ ∃ (i' : Nat) (x : Int × Int), (inner bars S b y.1 js q).1[i']? = some x ∧ x.1 = v ∧ i' ≠ 0
  | [], q, i, hq, hy, _ => ⟨hq, fun _ _ h => h, fun v h => by simp [inner] at h⟩
  | j :: js, q, i, hq, hy, hjs => by
    have hjs' : ∀ j ∈ js, j < S.2.2.length := fun x hx => hjs x (by simp [hx])
    have hj := hjs j (by simp)
    unfold inner
    split
    · next ht =>
      split
      · exact inner_QI hI hb hE js hq hy hjs'
      · next hs =>
        have hq2 := hq.snoc hI hb hE hy hj ht hs
        have hy2 : (q ++ [(hop bars S j, (j : Int))])[i]? = some y := by rw [List.getElem?_append_left (lt_of_getElem? hy)]; exact hy
        have hmono : ∀ (i : Nat) x, q[i]? = some x → (q ++ [(hop bars S j, (j : Int))])[i]? = some x := fun i x h => by rw [List.getElem?_append_left (lt_of_getElem? h)]; exact h
        split
        · obtain ⟨h1, h2, h3⟩ := inner_QI hI hb hE js hq2 hy2 hjs'
          exact ⟨h1, fun i x h => h2 i x (hmono i x h), h3⟩
        · next hn =>
          refine ⟨hq2, hmono, fun v hv => ?_⟩
          simp only [Option.some.injEq] at hv
          subst hv
          rw [not_or] at hn
          refine ⟨?_, hn.1, (hI.hp hb hE hj).2.1, hn.2, q.length, _, by simp; rfl, rfl, ?_⟩
          · intro e
            apply hs
            rw [seenQ_iff, e]
            exact List.mem_map.2 ⟨(a, -1), List.mem_of_getElem? hq.hd, rfl⟩
          · have := lt_of_getElem? hq.hd; omega
    · exact inner_QI hI hb hE js hq hy hjs'
theorem outer_QI {n : Nat} {k : Int} {bars : List BarT} {E : Nat} {S : PebT} {a b : Int} (hI : Inv n k bars E S) (hb : Bok n bars) (hE : E ≤ bars.length) : ∀ (f i : Nat) {q : QuT}, QI n bars S a q → ∀ q' v, outer bars S b f i q = some (q', v) →
    QI n bars S a q' ∧ v ≠ a ∧ v ≠ b ∧ (0 ≤ v ∧ v < n) ∧ gI S.1 v.toNat ≠ 0 ∧ ∃ (i' : Nat) (x : Int × Int), q'[i']? = some x ∧ x.1 = v ∧ i' ≠ 0
  | 0, i, q, hq, q', v, h => by simp [outer] at h
  | f + 1, i, q, hq, q', v, h => by
    unfold outer at h
    split at h
    · cases h
    · next x hx =>
      have hin := inner_QI (a := a) (b := b) hI hb hE (y := x) (List.range S.2.2.length) hq hx (fun j hj => by simpa using hj)
      split at h
      · next q1 v1 he =>
        simp only [Option.some.injEq, Prod.mk.injEq] at h
        obtain ⟨rfl, rfl⟩ := h
        rw [he] at hin
        exact ⟨hin.1, hin.2.2 v1 rfl⟩
      · next q1 he =>
        rw [he] at hin
        exact outer_QI hI hb hE f (i + 1) hin.1 q' v h

theorem gI_set {l : List Int} {i j : Nat} {x : Int} (hi : i < l.length) : gI (l.set i x) j = if i = j then x else gI l j := by
  unfold gI
  rw [List.getElem?_set]
  by_cases h : i = j
  · subst h; simp [hi]
  · simp [h]
theorem gI_get {l : List Int} {i : Nat} (hi : i < l.length) : l[i]? = some (gI l i) := by
  unfold gI; rw [List.getElem?_eq_getElem hi]; rfl
theorem count_set {l : List Int} {i : Nat} {x u : Int} (hi : i < l.length) : (l.set i x).count u + dl u (gI l i) = l.count u + dl u x := by
  unfold gI dl
  rw [List.getElem?_eq_getElem hi, Option.getD_some, List.count_set hi]
  have h1 : l[i] = u → 0 < l.count u := fun e => List.count_pos_iff.2 (e ▸ List.getElem_mem hi)
  by_cases h : u = x
  · subst h
    by_cases h2 : l[i] = u
    · have := h1 h2
      simp [h2]
      omega
    · have h3 : ¬ u = l[i] := fun e => h2 e.symm
      simp [h2, h3]
  · have h4 : ¬ x = u := fun e => h e.symm
    by_cases h2 : l[i] = u
    · have := h1 h2
      simp [h2, h, h4]
      omega
    · have h3 : ¬ u = l[i] := fun e => h2 e.symm
      simp [h2, h3, h, h4]
def Agree (S : PebT) (q : QuT) (T : List Int) (i : Nat) : Prop := T.length = S.2.1.length ∧ ∀ (i' : Nat) x, i' ≤ i → i' ≠ 0 → q[i']? = some x → gI T x.2.toNat = gI S.2.1 x.2.toNat
theorem Agree.start {S : PebT} {q : QuT} {i : Nat} : Agree S q S.2.1 i := ⟨rfl, fun _ _ _ _ _ => rfl⟩
theorem Agree.step {n : Nat} {k : Int} {bars : List BarT} {E : Nat} {S : PebT} {a : Int} {q : QuT} (hI : Inv n k bars E S) (hq : QI n bars S a q) {T : List Int} {i : Nat} (h : Agree S q T i) {x : Int × Int} (hx : q[i]? = some x) (h0 : i ≠ 0) :
    ∃ j i' y, x.2 = ((j : Nat) : Int) ∧ frm q x.1 = (j : Int) ∧ j < S.2.2.length ∧ i' < i ∧ q[i']? = some y ∧ gI T j = y.1 ∧ gI S.2.1 j = y.1 ∧ hop bars S j = x.1 ∧ Agree S q (T.set j x.1) i' := by
  obtain ⟨j, i', y, h1, h2, h3, h4, h5, h6⟩ := hq.up i x hx h0
  have e1 := h.2 i x (Nat.le_refl _) h0 hx
  rw [h1, Int.toNat_natCast] at e1
  refine ⟨j, i', y, h1, (frm_at hq hx).trans h1, h2, h3, h4, e1.trans h5, h5, h6, by rw [List.length_set]; exact h.1, ?_⟩
  intro i2 x2 hi2 hn2 hx2
  obtain ⟨j2, i3, y2, g1, g2, g3, g4, g5, g6⟩ := hq.up i2 x2 hx2 hn2
  rw [gI_set (by rw [h.1, hI.tl]; exact h2), if_neg ?_]
  · exact h.2 i2 x2 (by omega) hn2 hx2
  · intro e
    rw [g1, Int.toNat_natCast] at e
    subst e
    rw [h6] at g6
    have hnd := hq.nd
    have l1 := lt_of_getElem? hx
    have l2 := lt_of_getElem? hx2
    have := (List.nodup_iff_pairwise_ne.1 hnd)
    rw [List.pairwise_iff_getElem] at this
    have h7 := this i2 i (by simpa using l2) (by simpa using l1) (by omega)
    apply h7
    rw [List.getElem_map, List.getElem_map]
    rw [List.getElem?_eq_getElem l1] at hx
    rw [List.getElem?_eq_getElem l2] at hx2
    simp only [Option.some.injEq] at hx hx2
    rw [hx, hx2, g6]
theorem back_ok {n : Nat} {k : Int} {bars : List BarT} {E : Nat} {S : PebT} {a : Int} {q : QuT} (hI : Inv n k bars E S) (hb : Bok n bars) (hE : E ≤ bars.length) (hq : QI n bars S a q) : ∀ (f i : Nat) (T : List Int) (x : Int × Int), q[i]? = some x → i < f → Agree S q T i →
    (∀ j : Nat, j < S.2.2.length → ∀ e : Nat, gI S.2.2 j = e → (gI T j = (gB bars e).1 ∨ gI T j = (gB bars e).2)) →
    (back q a f x.1 T).length = S.2.1.length ∧ (∀ u, (back q a f x.1 T).count u + dl u a = T.count u + dl u x.1) ∧ ∀ j : Nat, j < S.2.2.length → ∀ e : Nat, gI S.2.2 j = e → (gI (back q a f x.1 T) j = (gB bars e).1 ∨ gI (back q a f x.1 T) j = (gB bars e).2)
  | 0, i, T, x, hx, hf, hA, hT => absurd hf (Nat.not_lt_zero _)
  | f + 1, i, T, x, hx, hf, hA, hT => by
    unfold back
    by_cases h0 : i = 0
    · subst h0
      rw [hq.hd] at hx
      simp only [Option.some.injEq] at hx
      subst hx
      rw [if_pos rfl]
      exact ⟨hA.1, fun u => rfl, hT⟩
    · have hne : x.1 ≠ a := by
        intro e
        have hnd := List.nodup_iff_pairwise_ne.1 hq.nd
        rw [List.pairwise_iff_getElem] at hnd
        have l1 := lt_of_getElem? hx
        have l0 := lt_of_getElem? hq.hd
        have h7 := hnd 0 i (by simpa using l0) (by simpa using l1) (by omega)
        apply h7
        rw [List.getElem_map, List.getElem_map]
        have hh := hq.hd
        rw [List.getElem?_eq_getElem l1] at hx
        rw [List.getElem?_eq_getElem l0] at hh
        simp only [Option.some.injEq] at hx hh
        rw [hx, hh, e]
      rw [if_neg hne]
      obtain ⟨j, i', y, h1, h2, h3, h4, h5, h6, h6', h7, h8⟩ := hA.step hI hq hx h0
      rw [h2, Int.toNat_natCast, h6]
      have hjl : j < T.length := by rw [hA.1, hI.tl]; exact h3
      obtain ⟨g1, g2, g3⟩ := back_ok hI hb hE hq f i' (T.set j x.1) y h5 (by omega) h8 (by
        intro j' hj' e he
        rw [gI_set hjl]
        split
        · next hjj =>
          subst hjj
          obtain ⟨e2, he2, _, _, h9⟩ := (hI.hp hb hE hj').2.2.2
          rw [he] at he2
          have : e = e2 := by omega
          subst this
          rw [← h7]; exact h9
        · exact hT j' hj' e he)
      refine ⟨g1, fun u => ?_, g3⟩
      have := count_set (u := u) (x := x.1) hjl
      rw [h6] at this
      have := g2 u
      omega
theorem movF_get {l : List Int} {v a : Int} {u n : Nat} (hl : l.length = n) (hv : 0 ≤ v ∧ v < n) (ha : 0 ≤ a ∧ a < n) (hu : u < n) : gI (movF l v a) u + (dl u v : Nat) = gI l u + (dl u a : Nat) := by
  unfold movF dl
  rw [gI_set (by simp; omega), gI_set (by omega), gI_set (by omega)]
  have e1 : (v.toNat = u) ↔ ((u : Int) = v) := by omega
  have e2 : (a.toNat = u) ↔ ((u : Int) = a) := by omega
  have e3 : (v.toNat = a.toNat) ↔ (v = a) := by omega
  by_cases h1 : (u : Int) = v <;> by_cases h2 : (u : Int) = a <;> by_cases h3 : v = a <;> simp [h1, h2, h3, e1, e2, e3] <;> (try omega)
  all_goals (subst_vars; try simp_all; try omega)
theorem findP_ok {n : Nat} {k : Int} {bars : List BarT} {E : Nat} {S S' : PebT} {a b : Int} (hI : Inv n k bars E S) (hb : Bok n bars) (hE : E ≤ bars.length) (hn : n ≤ 8) (ha : 0 ≤ a ∧ a < n) (hbb : 0 ≤ b ∧ b < n) (hab : a ≠ b) (h : findP bars a b S = some S') :
    Inv n k bars E S' ∧ gI S'.1 a.toNat = gI S.1 a.toNat + 1 ∧ gI S'.1 b.toNat = gI S.1 b.toNat ∧ S'.2.2 = S.2.2 := by
  unfold findP at h
  split at h
  · cases h
  · next q v hq =>
    simp only [Option.some.injEq] at h
    subst h
    obtain ⟨hQ, hva, hvb, hv, hfv, i', x, hx, rfl, hi0⟩ := outer_QI hI hb hE 10 0 (QI.start ha.1 ha.2) q v hq
    have hil := lt_of_getElem? hx
    have hql := hQ.le
    obtain ⟨g1, g2, g3⟩ := back_ok hI hb hE hQ 10 i' S.2.1 x hx (by omega) Agree.start (fun j hj e he => by
      obtain ⟨e2, he2, _, h9⟩ := hI.pl j hj
      rw [he] at he2
      have : e = e2 := by omega
      subst this
      exact h9)
    have hm := fun u hu => movF_get (u := u) hI.len hv ha hu
    have ea : (a.toNat : Int) = a := Int.toNat_of_nonneg ha.1
    have eb : (b.toNat : Int) = b := Int.toNat_of_nonneg hbb.1
    have ev : (x.1.toNat : Int) = x.1 := Int.toNat_of_nonneg hv.1
    refine ⟨⟨?_, ?_, ?_, hI.inc, ?_⟩, ?_, ?_, rfl⟩
    · show (movF S.1 x.1 a).length = n
      unfold movF
      rw [List.length_set, List.length_set, hI.len]
    · show (back _ _ _ _ _).length = _
      rw [g1, hI.tl]
    · intro j hj
      obtain ⟨e, he, hE2, _⟩ := hI.pl j hj
      exact ⟨e, he, hE2, g3 j hj e he⟩
    · intro u hu
      have f1 := hm u hu
      have f2 := g2 (u : Int)
      have f3 := hI.fr u hu
      have f4 : dl (u : Int) x.1 = 1 → 1 ≤ gI S.1 u := fun e => by
        unfold dl at e
        split at e
        · next e2 =>
          have : x.1.toNat = u := by omega
          rw [this] at hfv
          omega
        · cases e
      have f5 : dl (u : Int) x.1 = 0 ∨ dl (u : Int) x.1 = 1 := by unfold dl; split <;> simp
      have f6 : dl (u : Int) a = 0 ∨ dl (u : Int) a = 1 := by unfold dl; split <;> simp
      dsimp only
      constructor
      · rcases f5 with f5 | f5
        · omega
        · have := f4 f5; omega
      · omega
    · have f1 := hm a.toNat (by omega)
      rw [ea] at f1
      have d1 : dl a x.1 = 0 := by unfold dl; rw [if_neg (fun e => hva e.symm)]
      have d2 : dl a a = 1 := by unfold dl; rw [if_pos rfl]
      dsimp only
      omega
    · have f1 := hm b.toNat (by omega)
      rw [eb] at f1
      have d1 : dl b x.1 = 0 := by unfold dl; rw [if_neg (fun e => hvb e.symm)]
      have d2 : dl b a = 0 := by unfold dl; rw [if_neg (fun e => hab e.symm)]
      dsimp only
      omega
theorem gatherP_ok {n : Nat} {k : Int} {bars : List BarT} {E : Nat} {a b want : Int} (hb : Bok n bars) (hE : E ≤ bars.length) (hn : n ≤ 8) (ha : 0 ≤ a ∧ a < n) (hbb : 0 ≤ b ∧ b < n) (hab : a ≠ b) : ∀ (f : Nat) (S : PebT), Inv n k bars E S →
    Inv n k bars E (gatherP bars a b want f S).1 ∧ (gatherP bars a b want f S).1.2.2 = S.2.2 ∧ ((gatherP bars a b want f S).2 = true → want ≤ gI S.1 a.toNat + gI S.1 b.toNat + f → want ≤ gI (gatherP bars a b want f S).1.1 a.toNat + gI (gatherP bars a b want f S).1.1 b.toNat)
  | 0, S, h => ⟨h, rfl, fun _ h => by simpa [gatherP] using h⟩
  | f + 1, S, h => by
    unfold gatherP
    split
    · split
      · next S' hS =>
        obtain ⟨h1, h2, h3, h4⟩ := findP_ok h hb hE hn ha hbb hab hS
        obtain ⟨g1, g2, g3⟩ := gatherP_ok hb hE hn ha hbb hab f S' h1
        exact ⟨g1, g2.trans h4, fun e1 e2 => g3 e1 (by push_cast at e2; omega)⟩
      · split
        · next S' hS =>
          obtain ⟨h1, h2, h3, h4⟩ := findP_ok h hb hE hn hbb ha (fun e => hab e.symm) hS
          obtain ⟨g1, g2, g3⟩ := gatherP_ok hb hE hn ha hbb hab f S' h1
          exact ⟨g1, g2.trans h4, fun e1 e2 => g3 e1 (by push_cast at e2; omega)⟩
        · exact ⟨h, rfl, fun e => by cases e⟩
    · exact ⟨h, rfl, fun _ _ => by dsimp only; omega⟩
theorem gI_snoc {l : List Int} {x : Int} {i : Nat} : gI (l ++ [x]) i = if i < l.length then gI l i else if i = l.length then x else 0 := by
  unfold gI
  by_cases h : i < l.length
  · rw [List.getElem?_append_left h, if_pos h]
  · rw [if_neg h, List.getElem?_append_right (by omega)]
    by_cases h2 : i = l.length
    · subst h2; simp
    · rw [if_neg h2, List.getElem?_eq_none (by simp; omega)]; rfl
theorem placeP_ok {n : Nat} {k l : Int} {bars : List BarT} {e : Nat} {S S' : PebT} (hI : Inv n k bars e S) (hb : Bok n bars) (he : e < bars.length) (hn : n ≤ 8) (hl : 0 ≤ l ∧ l ≤ 5) (h : placeP bars l S e = some S') :
    Inv n k bars (e + 1) S' ∧ S'.2.2 = S.2.2 ++ [(e : Int)] := by
  have hbe := hb e he
  unfold placeP at h
  have hg := gatherP_ok (want := l + 1) hb (Nat.le_of_lt he) hn (a := (gB bars e).1) (b := (gB bars e).2) ⟨hbe.1, by omega⟩ ⟨by omega, hbe.2.2⟩ (by omega) 7 S hI
  split at h
  · next S1 hS1 =>
    rw [hS1] at hg
    simp only [Option.some.injEq] at h
    subst h
    obtain ⟨g1, g2, g3⟩ := hg
    dsimp only at g1 g2 g3
    have f0 := hI.fr (gB bars e).1.toNat (by omega)
    have f1 := hI.fr (gB bars e).2.toNat (by omega)
    have h3 := g3 rfl (by push_cast; omega)
    have fa := g1.fr (gB bars e).1.toNat (by omega)
    have fb := g1.fr (gB bars e).2.toNat (by omega)
    obtain ⟨t, ht⟩ : ∃ t, t = (if gI S1.1 (gB bars e).1.toNat = 0 then (gB bars e).2 else (gB bars e).1) := ⟨_, rfl⟩
    rw [← ht]
    have ht1 : t = (gB bars e).1 ∨ t = (gB bars e).2 := by rw [ht]; split <;> simp
    have ht2 : 0 ≤ t ∧ t < n := by omega
    have ht3 : 1 ≤ gI S1.1 t.toNat := by
      rw [ht]; split
      · omega
      · omega
    refine ⟨⟨?_, ?_, ?_, ?_, ?_⟩, by show S1.2.2 ++ _ = _; rw [g2]⟩
    · show (S1.1.set _ _).length = n
      rw [List.length_set, g1.len]
    · show (S1.2.1 ++ [t]).length = (S1.2.2 ++ [(e : Int)]).length
      rw [List.length_append, List.length_append, g1.tl]; rfl
    · intro j hj
      have hj2 : j < S1.2.2.length + 1 := by simpa [layP] using hj
      show ∃ e' : Nat, gI (S1.2.2 ++ [(e : Int)]) j = e' ∧ e' < e + 1 ∧ (gI (S1.2.1 ++ [t]) j = _ ∨ gI (S1.2.1 ++ [t]) j = _)
      rw [gI_snoc, gI_snoc, g1.tl]
      by_cases hjj : j < S1.2.2.length
      · obtain ⟨e', h5, h6, h7⟩ := g1.pl j hjj
        rw [if_pos hjj, if_pos hjj]
        exact ⟨e', h5, by omega, h7⟩
      · have : j = S1.2.2.length := by omega
        rw [if_neg hjj, if_neg hjj, if_pos this, if_pos this]
        exact ⟨e, rfl, by omega, ht1⟩
    · intro j hj
      have hj2 : j + 1 < S1.2.2.length + 1 := by simpa [layP] using hj
      show gI (S1.2.2 ++ [(e : Int)]) j < gI (S1.2.2 ++ [(e : Int)]) (j + 1)
      rw [gI_snoc, gI_snoc, if_pos (by omega)]
      by_cases hjj : j + 1 < S1.2.2.length
      · rw [if_pos hjj]; exact g1.inc j hjj
      · rw [if_neg hjj, if_pos (by omega)]
        obtain ⟨e', h5, h6, h7⟩ := g1.pl j (by omega)
        rw [h5]; omega
    · intro v hv
      have hf := g1.fr v hv
      show 0 ≤ gI (S1.1.set t.toNat _) v ∧ gI (S1.1.set t.toNat _) v + ((S1.2.1 ++ [t]).count (v : Int) : Nat) = k
      rw [gI_set (by rw [g1.len]; omega), List.count_append, List.count_cons, List.count_nil]
      by_cases htv : t.toNat = v
      · rw [if_pos htv]
        have : (t == (v : Int)) = true := by simp; omega
        rw [this]
        rw [htv] at ht3 ⊢
        simp
        omega
      · rw [if_neg htv]
        have : (t == (v : Int)) = false := by simp; omega
        rw [this]
        simp
        omega
  · cases h
theorem Inv.up {n : Nat} {k : Int} {bars : List BarT} {E E' : Nat} {S : PebT} (h : Inv n k bars E S) (hE : E ≤ E') : Inv n k bars E' S := ⟨h.len, h.tl, fun j hj => by obtain ⟨e, h1, h2, h3⟩ := h.pl j hj; exact ⟨e, h1, by omega, h3⟩, h.inc, h.fr⟩
theorem Inv.start {n : Nat} {k : Int} {bars : List BarT} (hk : 0 ≤ k) : Inv n k bars 0 (List.replicate n k, [], []) where
  len := by simp
  tl := rfl
  pl := fun j hj => by simp at hj
  inc := fun j hj => by simp at hj
  fr := fun v hv => by
    have : gI (List.replicate n k) v = k := by unfold gI; rw [List.getElem?_replicate, if_pos hv]; rfl
    simp [this, hk]
theorem playTo_ok {n : Nat} {k l : Int} {bars : List BarT} (hk : 0 ≤ k) (hb : Bok n bars) (hn : n ≤ 8) (hl : 0 ≤ l ∧ l ≤ 5) : ∀ e, e ≤ bars.length → Inv n k bars e (playTo bars l (List.replicate n k, [], []) e)
  | 0, _ => Inv.start hk
  | e + 1, he => by
    have ih := playTo_ok hk hb hn hl e (by omega)
    unfold playTo
    cases h : placeP bars l (playTo bars l (List.replicate n k, [], []) e) e with
    | none => exact ih.up (by omega)
    | some S' => exact (placeP_ok ih hb (by omega) hn hl h).1

theorem ownForm {W : World} {base : Nat} {v : Value} {l : List Int} (h : OwnInts W base v l) (hl : 0 < l.length) : ∃ g c, v = .slice (some ⟨g, 0, none⟩) l.length c ∧ base ≤ g ∧ g < W.heap.size := by
  rcases h.2 with ⟨_, h0⟩ | ⟨g, c, cur, rfl, hb, hg, _⟩
  · omega
  · exact ⟨g, c, rfl, hb, (Array.getElem?_eq_some_iff.1 hg).1⟩
theorem OwnInts.gcell {W : World} {base g n c : Nat} {l : List Int} (h : OwnInts W base (.slice (some ⟨g, 0, none⟩) n c) l) {k : Nat} (hk : k < l.length) : W.cell? ⟨g, k, none⟩ = some (.int .i64 (gI l k)) := by
  obtain ⟨a, cap, he, hi⟩ := h.form
  simp only [Value.slice.injEq] at he
  obtain ⟨_, rfl, rfl⟩ := he
  have := World.ownsRow.cellAt (w := W) (base := base) h k (by omega)
  rw [this, List.getElem?_map, gI_get hk]; rfl
theorem OwnInts.gfroz {W : World} {base g n c : Nat} {l : List Int} (h : OwnInts W base (.slice (some ⟨g, 0, none⟩) n c) l) (k : Nat) : W.frozen? ⟨g, k, none⟩ = false := by
  obtain ⟨a, cap, he, hi⟩ := h.form
  simp only [Value.slice.injEq] at he
  obtain ⟨_, rfl, rfl⟩ := he
  exact World.ownsRow.frozenAt (w := W) (base := base) h k
theorem OwnInts.gset {W : World} {base g n c : Nat} {l : List Int} (h : OwnInts W base (.slice (some ⟨g, 0, none⟩) n c) l) (k : Nat) (x : Int) : OwnInts (W.setCell ⟨g, k, none⟩ (.int .i64 x)) base (.slice (some ⟨g, 0, none⟩) n c) (l.set k x) := by
  obtain ⟨a, cap, he, hi⟩ := h.form
  simp only [Value.slice.injEq] at he
  obtain ⟨_, rfl, rfl⟩ := he
  have h2 := ownInts_set (k := k) (x := x) h
  unfold OwnInts
  rw [List.length_set]
  exact h2

structure PebC (base : Nat) (w : World) (pb : Nat) (vF vT vP : Value) (S : PebT) : Prop where
  c0 : w.cell? ⟨pb, 0, none⟩ = some vF
  c1 : w.cell? ⟨pb, 1, none⟩ = some vT
  c2 : w.cell? ⟨pb, 2, none⟩ = some vP
  f0 : w.frozen? ⟨pb, 0, none⟩ = false
  f1 : w.frozen? ⟨pb, 1, none⟩ = false
  f2 : w.frozen? ⟨pb, 2, none⟩ = false
  oF : OwnInts w base vF S.1
  oT : OwnInts w base vT S.2.1
  oP : OwnInts w base vP S.2.2
  dFT : ∀ k, vF.ownBlock = some k → vT.ownBlock ≠ some k
  dFP : ∀ k, vF.ownBlock = some k → vP.ownBlock ≠ some k
  dTP : ∀ k, vT.ownBlock = some k → vP.ownBlock ≠ some k
  dF : vF.ownBlock ≠ some pb
  dT : vT.ownBlock ≠ some pb
  dP : vP.ownBlock ≠ some pb
  lo : base ≤ pb
  hi : pb < w.heap.size
def PebAt (base : Nat) (w : World) (pb : Nat) (S : PebT) : Prop := ∃ vF vT vP, PebC base w pb vF vT vP S
theorem PebC.kept {K : Nat → Prop} {base pb : Nat} {w w' : World} {vF vT vP : Value} {S : PebT} (h : PebC base w pb vF vT vP S) (hk : Kept K w w') (h0 : ¬ K pb) (hF : ∀ k, vF.ownBlock = some k → ¬ K k) (hT : ∀ k, vT.ownBlock = some k → ¬ K k) (hP : ∀ k, vP.ownBlock = some k → ¬ K k) : PebC base w' pb vF vT vP S where
  c0 := (hk.cell h.hi h0).trans h.c0
  c1 := (hk.cell h.hi h0).trans h.c1
  c2 := (hk.cell h.hi h0).trans h.c2
  f0 := (hk.frozen h.hi h0).trans h.f0
  f1 := (hk.frozen h.hi h0).trans h.f1
  f2 := (hk.frozen h.hi h0).trans h.f2
  oF := hk.ownsRow h.oF hF
  oT := hk.ownsRow h.oT hT
  oP := hk.ownsRow h.oP hP
  dFT := h.dFT
  dFP := h.dFP
  dTP := h.dTP
  dF := h.dF
  dT := h.dT
  dP := h.dP
  lo := h.lo
  hi := Nat.lt_of_lt_of_le h.hi hk.size
theorem PebC.below {base pb : Nat} {w w' : World} {vF vT vP : Value} {S : PebT} (h : PebC base w pb vF vT vP S) (hb : Below w.heap.size w w') : PebC base w' pb vF vT vP S :=
  h.kept (Kept.of_below (S := fun _ => False) hb) id (fun _ _ => id) (fun _ _ => id) (fun _ _ => id)
theorem PebC.setF {base pb g n c : Nat} {w : World} {vT vP : Value} {S : PebT} (h : PebC base w pb (.slice (some ⟨g, 0, none⟩) n c) vT vP S) (i : Nat) (x : Int) : PebC base (w.setCell ⟨g, i, none⟩ (.int .i64 x)) pb (.slice (some ⟨g, 0, none⟩) n c) vT vP (S.1.set i x, S.2) := by
  have e : (Value.slice (some ⟨g, 0, none⟩) n c).ownBlock = some g := rfl
  have n0 : ¬ pb = g := fun he => h.dF (by rw [e, he])
  have nT : ∀ k, vT.ownBlock = some k → ¬ k = g := fun k hk he => h.dFT g e (by rw [hk, he])
  have nP : ∀ k, vP.ownBlock = some k → ¬ k = g := fun k hk he => h.dFP g e (by rw [hk, he])
  have hk : Kept (fun k => k = g) w (w.setCell ⟨g, i, none⟩ (.int .i64 x)) := setKept
  exact ⟨(hk.cell h.hi n0).trans h.c0, (hk.cell h.hi n0).trans h.c1, (hk.cell h.hi n0).trans h.c2, (hk.frozen h.hi n0).trans h.f0, (hk.frozen h.hi n0).trans h.f1, (hk.frozen h.hi n0).trans h.f2,
    h.oF.gset i x, hk.ownsRow h.oT nT, hk.ownsRow h.oP nP, h.dFT, h.dFP, h.dTP, h.dF, h.dT, h.dP, h.lo, Nat.lt_of_lt_of_le h.hi hk.size⟩
theorem PebC.setT {base pb g n c : Nat} {w : World} {vF vP : Value} {S : PebT} (h : PebC base w pb vF (.slice (some ⟨g, 0, none⟩) n c) vP S) (i : Nat) (x : Int) : PebC base (w.setCell ⟨g, i, none⟩ (.int .i64 x)) pb vF (.slice (some ⟨g, 0, none⟩) n c) vP (S.1, S.2.1.set i x, S.2.2) := by
  have e : (Value.slice (some ⟨g, 0, none⟩) n c).ownBlock = some g := rfl
  have n0 : ¬ pb = g := fun he => h.dT (by rw [e, he])
  have nF : ∀ k, vF.ownBlock = some k → ¬ k = g := fun k hk he => h.dFT k hk (by rw [e, he])
  have nP : ∀ k, vP.ownBlock = some k → ¬ k = g := fun k hk he => h.dTP g e (by rw [hk, he])
  have hk : Kept (fun k => k = g) w (w.setCell ⟨g, i, none⟩ (.int .i64 x)) := setKept
  exact ⟨(hk.cell h.hi n0).trans h.c0, (hk.cell h.hi n0).trans h.c1, (hk.cell h.hi n0).trans h.c2, (hk.frozen h.hi n0).trans h.f0, (hk.frozen h.hi n0).trans h.f1, (hk.frozen h.hi n0).trans h.f2,
    hk.ownsRow h.oF nF, h.oT.gset i x, hk.ownsRow h.oP nP, h.dFT, h.dFP, h.dTP, h.dF, h.dT, h.dP, h.lo, Nat.lt_of_lt_of_le h.hi hk.size⟩

/-! ### the map of the search -/
theorem lawInt : Maps.Keyed Tryz.prog 3 := Maps.int_keyed Tryz.underlying3
theorem zeroInt (w : World) : (zeroValue 3).run Tryz.prog w = .ok (.int .i64 0) w := by kernel_rfl
def litI (v : Int) : Lit := .int .i64 v
theorem litI_inj {a b : Int} (h : litI a = litI b) : a = b := by unfold litI at h; simpa using h
theorem litI_key (v : Int) : WideAt.IsKeyLit (litI v) := trivial
def putQ (D : DataW Unit) (x : Int × Int) : DataW Unit := D.put (litI x.1) (.lit (litI x.2))
def mapD (q : QuT) : DataW Unit := q.foldl putQ (.map [])
theorem mapD_snoc (q : QuT) (x : Int × Int) : mapD (q ++ [x]) = putQ (mapD q) x := by unfold mapD; rw [List.foldl_append]; rfl
theorem putQ_isMap {D : DataW Unit} (h : Maps.IsMap D) (x : Int × Int) : Maps.IsMap (putQ D x) := h.put _ _
theorem fold_has (v : Int) : ∀ (q : QuT) (D : DataW Unit), Maps.IsMap D → Maps.has (q.foldl putQ D) (litI v) = (Maps.has D (litI v) || seenQ q v)
  | [], D, h => by simp [seenQ]
  | x :: q, D, h => by
    rw [List.foldl_cons, fold_has v q _ (putQ_isMap h x)]
    unfold seenQ
    rw [List.any_cons]
    by_cases e : x.1 = v
    · subst e
      rw [show Maps.has (putQ D x) (litI x.1) = true from Maps.has_put_same h (litI_key _) _]
      simp
    · rw [show Maps.has (putQ D x) (litI v) = Maps.has D (litI v) from Maps.has_put_other (fun e2 => e (litI_inj e2).symm) _]
      have : (x.1 == v) = false := by simpa using e
      rw [this]; simp
theorem mapD_has (q : QuT) (v : Int) : Maps.has (mapD q) (litI v) = seenQ q v := by
  unfold mapD
  rw [fold_has v q _ Maps.isMap_empty]
  simp [Maps.has_eq]
theorem fold_at (v : Int) (z : DataW Unit) : ∀ (q : QuT) (D : DataW Unit), Maps.IsMap D → (q.map (·.1)).Nodup → (q.foldl putQ D).atKey (litI v) z = if seenQ q v = true then .lit (litI (frm q v)) else D.atKey (litI v) z
  | [], D, h, hn => by simp [seenQ]
  | x :: q, D, h, hn => by
    rw [List.map_cons, List.nodup_cons] at hn
    rw [List.foldl_cons, fold_at v z q _ (putQ_isMap h x) hn.2]
    by_cases e : x.1 = v
    · subst e
      have h0 : ¬ seenQ q x.1 = true := fun h2 => hn.1 (seenQ_iff.1 h2)
      have h1 : seenQ (x :: q) x.1 = true := seenQ_iff.2 (by simp)
      rw [if_neg h0, if_pos h1]
      have : frm (x :: q) x.1 = x.2 := by unfold frm; rw [List.find?_cons]; simp
      rw [this]
      exact Maps.atKey_put_same h (litI_key _) _ _
    · have hx : (x.1 == v) = false := by simpa using e
      have h1 : seenQ (x :: q) v = seenQ q v := by unfold seenQ; rw [List.any_cons, hx, Bool.false_or]
      have h2 : frm (x :: q) v = frm q v := by unfold frm; rw [List.find?_cons, hx]
      rw [h1, h2]
      congr 1
      exact Maps.atKey_put_other (fun e2 => e (litI_inj e2).symm) _ _
theorem mapD_at {q : QuT} (hn : (q.map (·.1)).Nodup) {v : Int} (h : seenQ q v = true) (z : DataW Unit) : (mapD q).atKey (litI v) z = .lit (litI (frm q v)) := by
  unfold mapD
  rw [fold_at v z q _ Maps.isMap_empty hn, if_pos h]
def MapQ (w : World) (b : Nat) (q : QuT) : Prop := w.ownsMap Tryz.prog 3 (plainElem Tryz.prog 3) b q.length (mapD q)
theorem MapQ.below {w w' : World} {b : Nat} {q : QuT} (h : MapQ w b q) (hb : Below w.heap.size w w') : MapQ w' b q :=
  World.ownsMap.kept (row := none) h ⟨hb.os, hb.tape, hb.output, hb.size, fun k hk _ => hb.block k hk⟩ (by simp)
theorem keyI {v : Int} (h : -4611686018427387904 ≤ v ∧ v ≤ 4611686018427387904) : keyOf Tryz.prog 3 (.int .i64 v) = some (litI v) := Maps.keyOf_int_mk Tryz.underlying3 (WalkArith.wf_i64 (by omega))
theorem elemI {v : Int} (h : -4611686018427387904 ≤ v ∧ v ≤ 4611686018427387904) : plainElem (H := Unit) Tryz.prog 3 (.int .i64 v) = some (.lit (litI v), []) := plainElem_int Tryz.underlying3 (WalkArith.wf_i64 (by omega))
theorem wpList_insert_own {P : Program} (w : World) {ops : Array Oper} {rest : List Oper} {o : Oper} {a : Act} {Q : Exit → Act → World → Prop}
    (hg : o.guard = none) (m x v : Operand) (t : TypeId) (hop : o.op = Op.insert t m x v)
    (k e : TypeId) (K : Maps.Keyed P k) (ht : P.underlying t = some (.map k e)) (R : Value → Option (DataW Unit × List MemPlace)) (b n : Nat) (D : DataW Unit)
    (hm : a.eval m = .map (some b)) (hown : w.ownsMap P k R b n D) (hn : n < maxLen) (key val : Value) (kl : Lit) (hx : a.eval x = key) (hv : a.eval v = val) (hkey : keyOf P k key = some kl)
    (d : DataW Unit) (ps : List MemPlace) (hval : R val = some (d, ps))
    (hK : ∀ w', w'.ownsMap P k R b (n + 1) (D.put kl d) → w.grownBy w' (some b) → wpList P ops Q rest (a.put o.dst undef) w') :
    wpList P ops Q (o :: rest) a w := by
  refine wpList_plain hg fun K' hK' => ?_
  obtain ⟨w', hrun, r1, r2⟩ := hown.update K ht hn hkey hval
  unfold Oper.wp
  simp [execOp, hop, hm, hx, hv, hrun, Result.andThen]
  exact hK' _ _ (hK w' r1 r2)

theorem drN_below {B : Nat} {a w : World} (h : Below B a w) (n : Nat) : Below B a (w.drewN n) := h.trans ⟨rfl, rfl, rfl, Nat.le_refl _, fun _ _ => rfl⟩
theorem own1 (w : World) (base : Nat) (x : Int) (h : base ≤ w.heap.size) : OwnInts (w.alloc (.cells #[.int .i64 x] 3)) base (.slice (some ⟨w.heap.size, 0, none⟩) 1 1) [x] :=
  ⟨by simp, .inr ⟨w.heap.size, 1, #[.int .i64 x], rfl, h, heap_alloc_new w _, Nat.le_refl _, by decide, rfl, by simp⟩⟩
set_option maxHeartbeats 1000000 in
theorem other_any (b1 b2 v : Int) (w : World) : Calls Tryz.prog 148 #[.agg #[.int .i64 b1, .int .i64 b2], .int .i64 v] w fun e w' => e = .returned (.int .i64 (othB (b1, b2) v)) ∧ Below w.heap.size w w' := by
  have hb0 : Below w.heap.size w (w.alloc (.cells #[.int .i64 b1, .int .i64 b2] 70)) := belAl _ _
  by_cases h : b1 = v
  · have hq : (b1 == v) = true := by simp [h]
    have HE := Lib.hid (show othB (b1, b2) v = b2 by unfold othB; rw [if_pos h])
    clear h
    go_enter Tryz.func148, Tryz.ntmps148
    go_wp2_with fail
    go_ret
    exact ⟨by rw [HE.out]; try rfl, hb0⟩
  · have hq : (b1 == v) = false := by simp [h]
    have HE := Lib.hid (show othB (b1, b2) v = b1 by unfold othB; rw [if_neg h])
    clear h
    go_enter Tryz.func148, Tryz.ntmps148
    go_wp2_with fail
    go_ret
    exact ⟨by rw [HE.out]; try rfl, hb0⟩
theorem Inv.plen {n : Nat} {k : Int} {bars : List BarT} {E : Nat} {S : PebT} (h : Inv n k bars E S) : S.2.2.length ≤ E := by
  have key : ∀ j : Nat, j < S.2.2.length → (j : Int) ≤ gI S.2.2 j := by
    intro j
    induction j with
    | zero => intro hj; obtain ⟨e, he, _⟩ := h.pl 0 hj; rw [he]; omega
    | succ j ih => intro hj; have := h.inc j hj; have := ih (by omega); omega
  rcases Nat.eq_zero_or_pos S.2.2.length with h0 | h0
  · omega
  · obtain ⟨e, he, h1, _⟩ := h.pl (S.2.2.length - 1) (by omega)
    have := key (S.2.2.length - 1) (by omega)
    omega
theorem outer_step {bars : List BarT} {S : PebT} {b : Int} {f i : Nat} {q : QuT} {u : Int × Int} (h : q[i]? = some u) : outer bars S b (f + 1) i q = match inner bars S b u.1 (List.range S.2.2.length) q with | (q', some v) => some (q', v) | (q', none) => outer bars S b f (i + 1) q' := by
  rw [outer]
  simp only [h]
  all_goals (rcases inner bars S b u.1 (List.range S.2.2.length) q with ⟨q', _ | v⟩ <;> rfl)
theorem OwnInts.nm {W : World} {base : Nat} {v : Value} {q : QuT} (h : OwnInts W base v (q.map (·.1))) : OwnInts W base v (q.map (·.1)) := h
theorem MapQ.kept {K : Nat → Prop} {w w' : World} {b : Nat} {q : QuT} (h : MapQ w b q) (hk : Kept K w w') (hn : ¬ K b) : MapQ w' b q := by
  have hl := World.ownsMap.lt h
  obtain ⟨es, clock, hb, F, hs, hD⟩ := h
  exact ⟨es, clock, (hk.block b hl hn).trans hb, F, hs, hD⟩
def posQ (q : QuT) (z : Int) : Nat := (q.map (·.1)).findIdx fun v => v == z
theorem posQ_at {q : QuT} (hn : (q.map (·.1)).Nodup) {i : Nat} {u : Int × Int} (h : q[i]? = some u) : posQ q u.1 = i := by
  have hl := lt_of_getElem? h
  have hl2 : i < (q.map (·.1)).length := by simpa using hl
  rw [List.getElem?_eq_getElem hl] at h
  simp only [Option.some.injEq] at h
  have hu : (q.map (·.1))[i] = u.1 := by rw [List.getElem_map, h]
  have hp : (fun v => v == u.1) (q.map (·.1))[i] = true := by simp [hu]
  have hle : posQ q u.1 ≤ i := by
    unfold posQ
    rcases Nat.lt_or_ge i ((q.map (·.1)).findIdx fun v => v == u.1) with h2 | h2
    · exact absurd hp (by simpa using List.not_of_lt_findIdx h2)
    · exact h2
  rcases Nat.lt_or_ge (posQ q u.1) i with h2 | h2
  · have h3 : (q.map (·.1)).findIdx (fun v => v == u.1) < (q.map (·.1)).length := Nat.lt_trans h2 hl2
    have h4 := List.findIdx_getElem (w := h3)
    simp only [beq_iff_eq] at h4
    have h5 := List.pairwise_iff_getElem.1 (List.nodup_iff_pairwise_ne.1 hn) (posQ q u.1) i h3 hl2 h2
    exact absurd (h4.trans hu.symm) h5
  · omega
theorem back_at {q : QuT} {a : Int} {f : Nat} {t : List Int} (h : 0 < f) : back q a f a t = t := by
  obtain ⟨f, rfl⟩ : ∃ g, f = g + 1 := ⟨f - 1, by omega⟩
  rw [back, if_pos rfl]
def PK (vF vT : Value) (b : Nat) : Prop := vF.ownBlock = some b ∨ vT.ownBlock = some b
theorem PebC.keptBelow {W w w' : World} {pb : Nat} {vF vT vP : Value} {S : PebT} (h : PebC W.heap.size w pb vF vT vP S) (hW : Below W.heap.size W w) (hk : Kept (PK vF vT) w w') : Below W.heap.size W w' :=
  hW.trans (hk.below hW.size fun q hq hh => by
    rcases hh with hh | hh
    · have := (h.oF.lt q hh).1; omega
    · have := (h.oT.lt q hh).1; omega)
theorem setPF {w w0 : World} {gF nF cF i : Nat} {vT x : Value} (h : Kept (PK (.slice (some ⟨gF, 0, none⟩) nF cF) vT) w0 w) : Kept (PK (.slice (some ⟨gF, 0, none⟩) nF cF) vT) w0 (w.setCell ⟨gF, i, none⟩ x) :=
  h.trans (setKept.mono fun k _ hh => .inl (by rw [hh]; rfl))
theorem setPT {w w0 : World} {gT nT cT i : Nat} {vF x : Value} (h : Kept (PK vF (.slice (some ⟨gT, 0, none⟩) nT cT)) w0 w) : Kept (PK vF (.slice (some ⟨gT, 0, none⟩) nT cT)) w0 (w.setCell ⟨gT, i, none⟩ x) :=
  h.trans (setKept.mono fun k _ hh => .inr (by rw [hh]; rfl))
theorem drop_range {m i : Nat} (h : i < m) : (List.range m).drop i = i :: (List.range m).drop (i + 1) := by
  rw [List.drop_eq_getElem_cons (by simpa using h), List.getElem_range]
theorem get_map1 {q : QuT} {j : Nat} {u : Int × Int} (h : q[j]? = some u) : gI (q.map (·.1)) j = u.1 := by
  unfold gI; rw [List.getElem?_map, h]; rfl

set_option maxHeartbeats 16000000 in
theorem moveTo_at (W w : World) (hW : Below W.heap.size W w) (n E : Nat) (k : Int) (hn : n ≤ 8) (hk : k ≤ 64) (a : Option Addr) (cap : Nat) (l : List BarT) (h : BarsAt W a l.length l) (hl : l.length ≤ 1048576) (hb : Bok n l) (hE : E ≤ l.length) (F T P : List Int) (hI : Inv n k l E (F, T, P)) (x y : Int) (hx : 0 ≤ x ∧ x < n) (hy : 0 ≤ y ∧ y < n) (hxy : x ≠ y) (pb : Nat) (vF vT vP : Value) (hC : PebC W.heap.size w pb vF vT vP (F, T, P)) :
    Calls Tryz.prog 180 #[.slice a l.length cap, .pointer (some ⟨pb, 0, none⟩), .int .i64 x, .int .i64 y] w fun e w' => e = .returned (.bool (findP l x y (F, T, P)).isSome) ∧ PebC W.heap.size w' pb vF vT vP ((findP l x y (F, T, P)).getD (F, T, P)) ∧ Kept (PK vF vT) w w' := by
  have hlF : F.length = n := hI.len
  have hlT : T.length = P.length := hI.tl
  obtain ⟨gF, cF, rfl, hgF, hgF2⟩ := ownForm hC.oF (by show 0 < F.length; rw [hlF]; omega)
  obtain ⟨aT, cT, rfl, _⟩ := hC.oT.form
  obtain ⟨aP, cP, rfl, _⟩ := hC.oP.form
  dsimp only at hC
  obtain ⟨m, hm⟩ : ∃ m, P.length = m := ⟨_, rfl⟩
  have hm64 : m ≤ 1048576 := by
    have := hI.plen
    dsimp only at this
    omega
  rw [hlF, hlT, hm] at hC ⊢
  have HI := Lib.hid hI
  have HC := Lib.hid hC
  have H1 := Lib.hid h
  have HB := Lib.hid hb
  have HM := Lib.hid hm
  have HLT := Lib.hid (hlT.trans hm)
  have HLF := Lib.hid hlF
  have HW := Lib.hid hW
  have hpb := hC.hi
  have hkx := keyI (v := x) (by omega)
  have hmm := @run_makeMap Tryz.prog
  clear hI hC h hb hm hlT hlF hW
  go_enter Tryz.func180, Tryz.ntmps180
  go_wp2_with (refine wpList_insert_own _ rfl _ _ _ 181 rfl 3 3 lawInt Tryz.underlying181 _ w.heap.size 0 (.map []) rfl (World.ownsMap_made _ _ _ _) (by decide) _ _ (litI x) rfl rfl hkx (.lit (litI (-1))) [] (elemI (by omega)) ?_; intro w1 hm1 hg1)
  have b1 : Below w.heap.size w w1 := (belAl w (.map #[] 0)).trans ((Kept.of_grown hg1).below (by simp) fun q hq he => by cases he; omega)
  have hz1 : w.heap.size < w1.heap.size := hm1.lt
  have MQ1 : MapQ w1 w.heap.size [(x, -1)] := hm1
  have b2 : Below w.heap.size w (w1.alloc (.cells #[.int .i64 x] 3)) := b1.trans ((belAl w1 _).mono (by omega))
  have MQ : Hid (MapQ (w1.alloc (.cells #[.int .i64 x] 3)) w.heap.size [(x, -1)]) := Lib.hid (MQ1.below (belAl w1 _))
  have OQ : Hid (OwnInts (w1.alloc (.cells #[.int .i64 x] 3)) (w.heap.size + 1) (.slice (some ⟨w1.heap.size, 0, none⟩) 1 1) [x]) := Lib.hid (own1 w1 _ x (by omega))
  have QS : Hid (QI n l (F, T, P) x [(x, -1)]) := Lib.hid (QI.start hx.1 hx.2)
  clear hm1 hg1 MQ1 b1
  generalize w1.alloc (.cells #[.int .i64 x] 3) = w2 at *
  go_loopw [10, 11] (fun t i w9 => ∃ (j : Nat) (q : QuT), i = .int .i64 j ∧ j ≤ q.length ∧ OwnInts w9 (w.heap.size + 1) t (q.map (·.1)) ∧ MapQ w9 w.heap.size q ∧ Below w.heap.size w w9 ∧ QI n l (F, T, P) x q ∧ outer l (F, T, P) y 10 0 [(x, -1)] = outer l (F, T, P) y (10 - j) j q) (fun t i _ => 10 - (intOf i).toNat)
  case atStart => exact ⟨0, [(x, -1)], rfl, Nat.zero_le _, OQ.out, MQ.out, b2, QS.out, rfl⟩
  case round =>
    clear MQ OQ QS b2 hmm hkx
    obtain ⟨j, q, rfl, hjq, ho, hmq, hb9, hqi, hout⟩ := hrel
    have hq8 : q.length ≤ 8 := by have := hqi.le; omega
    have HO := Lib.hid ho
    have HQ := Lib.hid hmq
    have HS := Lib.hid hqi
    have HOUT := Lib.hid hout
    clear ho hmq hqi hout
    by_cases hjl : j < q.length
    · obtain ⟨u, hu⟩ : ∃ u, q[j]? = some u := ⟨_, List.getElem?_eq_getElem hjl⟩
      obtain ⟨gt, ct, rfl, hgt1, hgt2⟩ := ownForm HO.out (by rw [List.length_map]; omega)
      have HO2 := HO.out
      rw [List.length_map] at HO2
      rw [List.length_map]
      have HO3 := Lib.hid HO2
      clear HO2 HO
      have HUU := Lib.hid hu
      clear hu
      have c2 := (hb9.cell (p := ⟨pb, 2, none⟩) hpb).trans HC.out.c2
      have hjI : (j : Int) < (q.length : Int) := by omega
      go_wp2_with fail
      clear c2
      go_loopw [10, 36] (fun t e w9 => ∃ (i : Nat) (q' : QuT), e = .int .i64 i ∧ i ≤ m ∧ q'[j]? = some u ∧ OwnInts w9 (w.heap.size + 1) t (q'.map (·.1)) ∧ MapQ w9 w.heap.size q' ∧ Below w.heap.size w w9 ∧ QI n l (F, T, P) x q' ∧ inner l (F, T, P) y u.1 (List.range m) q = inner l (F, T, P) y u.1 ((List.range m).drop i) q') (fun t e _ => m - (intOf e).toNat)
      case atStart => exact ⟨0, q, rfl, Nat.zero_le _, HUU.out, HO3.out.nm, HQ.out, hb9, HS.out, rfl⟩
      case round =>
        clear HO3 HQ hb9 HS hgt1 hgt2 hjI hq8
        obtain ⟨i, q', rfl, him, hu', ho, hmq, hb9, hqi, hinn⟩ := hrel
        have hq8 : q'.length ≤ 8 := by have := hqi.le; omega
        have hjq' := lt_of_getElem? hu'
        have HU' := Lib.hid hu'
        have HO := Lib.hid ho
        have HQ := Lib.hid hmq
        have HS := Lib.hid hqi
        have HIN := Lib.hid hinn
        clear ho hmq hqi hinn hu'
        by_cases hil : i < m
        · obtain ⟨gt, ct, rfl, hgt1, hgt2⟩ := ownForm HO.out (by simpa using (by omega : 0 < q'.length))
          have HO2 := HO.out
          rw [List.length_map] at HO2
          rw [List.length_map]
          have HO3 := Lib.hid HO2
          clear HO2 HO
          obtain ⟨gP, cP', heP, -, -⟩ := ownForm HC.out.oP (by show 0 < P.length; have := HM.out; omega)
          obtain ⟨gT, cT', heT, hgT, hgT2⟩ := ownForm HC.out.oT (by show 0 < T.length; have := HLT.out; omega)
          simp only [Value.slice.injEq] at heP heT
          obtain ⟨rfl, -, rfl⟩ := heP
          obtain ⟨rfl, -, rfl⟩ := heT
          have CB := HC.out.below hb9
          obtain ⟨hT, hhop, hhne, e, he, hel, _, _⟩ := HI.out.hp HB.out hE (j := i) (by show i < P.length; have := HM.out; omega)
          have hc0 := CB.c0
          have hc1 := CB.c1
          have hc2 := CB.c2
          have t0 := CB.oP.gcell (k := i) (by show i < P.length; have := HM.out; omega)
          have t1 := CB.oT.gcell (k := i) (by show i < T.length; have := HLT.out; omega)
          have t2 := HO3.out.gcell (k := j) (by simpa using hjq')
          rw [get_map1 HU'.out] at t2
          dsimp only at he hT t0 t1
          rw [he] at t0
          have HHOP := Lib.hid (show hop l (F, T, P) i = othB (gB l e) (gI T i) by unfold hop; rw [he, Int.toNat_natCast])
          have HHB := Lib.hid (And.intro hhop (And.intro hT hhne))
          have HDR := Lib.hid (drop_range hil)
          have hsP : gP < wr.heap.size := (CB.oP.lt _ rfl).2
          have hsT : gT < wr.heap.size := (CB.oT.lt _ rfl).2
          have hsb : pb < wr.heap.size := CB.hi
          obtain ⟨bb, off, ⟨b1, b2⟩, rfl, hbl, hxb, d0, d1⟩ := ((H1.out.below HW.out).below hb9).2 e hel
          dsimp only at d0 d1
          have HGB := Lib.hid (show gB l e = (b1, b2) by unfold gB; rw [hxb]; rfl)
          clear he hT hhop hhne CB hxb
          obtain ⟨tv, htv⟩ : ∃ tv, tv = gI T i := ⟨_, rfl⟩
          obtain ⟨uv, huv⟩ : ∃ uv, uv = u.1 := ⟨_, rfl⟩
          rw [← htv] at t1
          rw [← huv] at t2
          have HTV := Lib.hid htv
          have HUV := Lib.hid huv
          clear htv huv
          have s1 : (i : Int) < (m : Int) := by omega
          have s2 : (j : Int) < (q'.length : Int) := by omega
          have s3 : (e : Int) < (l.length : Int) := by omega
          have s4 : (0 : Int) ≤ (i : Int) := by omega
          have s5 : (0 : Int) ≤ (j : Int) := by omega
          have s6 : (0 : Int) ≤ (e : Int) := by omega
          by_cases htu : tv = uv
          · have htn : (tv != uv) = false := by rw [htu]; simp
            have hva : gI T i = u.1 := by rw [← HTV.out, ← HUV.out]; exact htu
            obtain ⟨vN, hvn⟩ := Int.eq_ofNat_of_zero_le HHB.out.1.1
            have HV := Lib.hid hvn
            have hvo : othB (b1, b2) uv = (vN : Int) := by
              rw [← hvn, HHOP.out, HGB.out, hva, HUV.out]
            have HCO : Hid (∀ w, Calls Tryz.prog 148 #[.agg #[.int .i64 b1, .int .i64 b2], .int .i64 uv] w fun e w' => e = .returned (.int .i64 (vN : Int)) ∧ Below w.heap.size w w') := Lib.hid fun w => by have := other_any b1 b2 uv w; rwa [hvo] at this
            have hv0 : vN < n := by have := HHB.out.1.2; rw [hvn] at this; omega
            have HVA := Lib.hid hva
            clear htu hva hvn hvo
            go_wp2_with fail
            go_quiet (fail)
            have bd : Below wr.heap.size wr (wr.drewN nq) := drN_below (Below.refl _ _) nq
            have hb10 := drN_below hb9 nq
            have HO4 := Lib.hid (HO3.out.below bd)
            have HQ4 := Lib.hid (HQ.out.below bd)
            have hbl2 : bb < wr.heap.size := hbl
            obtain ⟨qc, qf⟩ := bcell bd
            replace t2 := (qc _ _ hgt2).trans t2
            replace t0 := (qc _ _ hsP).trans t0
            replace d0 := (qc _ _ hbl2).trans d0
            replace d1 := (qc _ _ hbl2).trans d1
            replace hsP := Nat.lt_of_lt_of_le hsP bd.size
            replace hgt2 := Nat.lt_of_lt_of_le hgt2 bd.size
            replace hbl := Nat.lt_of_lt_of_le hbl2 bd.size
            clear qc qf hbl2
            clear hc0 hc1 hc2 bd hb9 HO3 HQ t1 hsT hsb
            generalize wr.drewN nq = w3 at *
            have hwd := @Wd.cells
            go_wp2_with fail
            refine wp_region_wd (by kernel_rfl) (by kernel_rfl) ?_
            repeat (go_big_quiet_step (first | (go_at_call 148; exact Calls.wd_of (HCO.out _))))
            refine wpQuiet_nil ?_
            intro n1
            have bn := n1.h
            have HO5 := Lib.hid (HO4.out.below bn)
            have HQ5 := Lib.hid (HQ4.out.below bn)
            have hb11 := hb10.step bn
            replace hgt2 := Nat.lt_of_lt_of_le hgt2 bn.size
            clear t0 t2 d0 d1 bn hbl hsP HO4 HQ4 hb10 HCO hwd
            generalize n1.w = w4 at *
            by_cases hs : seenQ q' (vN : Int) = true
            · have HH := Lib.hid ((mapD_has q' (vN : Int)).trans hs)
              have HNX := Lib.hid (show inner l (F, T, P) y u.1 (List.range m) q = inner l (F, T, P) y u.1 ((List.range m).drop (i + 1)) q' by
                rw [HIN.out, HDR.out, inner, if_pos HVA.out, if_pos (by rw [HV.out]; exact hs)])
              clear hs
              go_wp2_with (at_lookup; refine wpList_lookup_own_ok_int _ rfl _ _ 181 rfl 3 3 .i64 lawInt Tryz.underlying181 Tryz.underlying3 (zeroInt _) w.heap.size q'.length (mapD q') rfl HQ5.out _ _ rfl (keyI (by omega)) ?_; intro c hat hwc; rw [HH.out]; clear hat hwc)
              go_roundw
              case rel => exact ⟨i + 1, q', by go_num, by omega, HU'.out, HO5.out, HQ5.out, hb11, HS.out, HNX.out⟩
              case measure => simp [intOf]; omega
            · have HH := Lib.hid ((mapD_has q' (vN : Int)).trans (by simpa using hs))
              have HNS := Lib.hid hs
              clear hs
              go_upto_region 14 with (first | (at_lookup; refine wpList_lookup_own_ok_int _ rfl _ _ 181 rfl 3 3 .i64 lawInt Tryz.underlying181 Tryz.underlying3 (zeroInt _) w.heap.size q'.length (mapD q') rfl HQ5.out _ _ rfl (keyI (by omega)) ?_; intro c hat hwc; rw [HH.out]; clear hat hwc) | (at_mapUpdate; refine wpList_mapUpdate_own _ rfl _ _ _ 181 rfl 3 3 lawInt Tryz.underlying181 _ w.heap.size q'.length (mapD q') rfl HQ5.out (by unfold maxLen; omega) _ _ (litI (vN : Int)) rfl rfl (keyI (by omega)) (.lit (litI (i : Int))) [] (elemI (by omega)) ?_; intro w5 hm5 hg5))
              have k5 := Kept.of_grown hg5
              have HO6 := Lib.hid (show OwnInts w5 (w.heap.size + 1) _ (q'.map (·.1)) from k5.ownsRow HO5.out fun g hg he => by have := (HO5.out.lt g hg).1; cases he; omega)
              have hb12 : Below w.heap.size w w5 := hb11.trans (k5.below hb11.size fun g hg he => by cases he; omega)
              have HQ6 : Hid (MapQ w5 w.heap.size (q' ++ [((vN : Int), (i : Int))])) := Lib.hid (by unfold MapQ; rw [List.length_append, mapD_snoc]; exact hm5)
              have HS6 : Hid (QI n l (F, T, P) x (q' ++ [((vN : Int), (i : Int))])) := Lib.hid (by
                have := HS.out.snoc HI.out HB.out hE HU'.out (by show i < P.length; have := HM.out; omega) HVA.out (by rw [HV.out]; exact HNS.out)
                rwa [HV.out] at this)
              have HU6 : Hid ((q' ++ [((vN : Int), (i : Int))])[j]? = some u) := Lib.hid (by rw [List.getElem?_append_left hjq']; exact HU'.out)
              replace hgt2 := Nat.lt_of_lt_of_le hgt2 k5.size
              have CB := HC.out.below hb12
              have hc0 := CB.c0
              have hsb := CB.hi
              have tf := CB.oF.gcell (k := vN) (by show vN < F.length; have := HLF.out; omega)
              have tz := CB.oF.gfroz vN
              have hsF : gF < w5.heap.size := (CB.oF.lt _ rfl).2
              have hvI : (vN : Int) < (n : Int) := by omega
              have hvI0 : (0 : Int) ≤ (vN : Int) := by omega
              have hfb : 0 ≤ gI F vN ∧ gI F vN ≤ 64 := by
                have := HI.out.fr vN hv0
                dsimp only at this
                omega
              have HCB := Lib.hid CB
              dsimp only at tf
              clear hm5 hg5 k5 HO5 HQ5 hb11 CB
              obtain ⟨fv, hfv⟩ : ∃ fv, fv = gI F vN := ⟨_, rfl⟩
              rw [← hfv] at tf hfb
              have HFV := Lib.hid hfv
              clear hfv
              by_cases hor : (vN : Int) = y ∨ fv = 0
              · have HNX := Lib.hid (show inner l (F, T, P) y u.1 (List.range m) q = inner l (F, T, P) y u.1 ((List.range m).drop (i + 1)) (q' ++ [((vN : Int), (i : Int))]) by
                  rw [HIN.out, HDR.out, inner, if_pos HVA.out, if_neg (by rw [HV.out]; exact HNS.out), if_pos (by rw [HV.out, Int.toNat_natCast]; show _ ∨ gI F vN = 0; rw [← HFV.out]; exact hor), HV.out])
                have hq17 : (List.map (fun x : Int × Int => x.1) q').length < 17592186044416 := by rw [List.length_map]; omega
                have hbs5 : w.heap.size + 1 ≤ w5.heap.size := by omega
                by_cases hvy : (vN : Int) = y
                · have hvb : ((vN : Int) == y) = true := by rw [beq_iff_eq]; exact hvy
                  clear hor hvy tf tz hc0
                  go_wp2_with (at_builtin; refine app1 rfl (.tmp 85) (.tmp 87) rfl rfl HO6.out (vN : Int) rfl hq17 hbs5 ?_; intro v6 w6 h6 k6)
                  go_roundw
                  case rel => exact ⟨i + 1, q' ++ [((vN : Int), (i : Int))], by go_num, by omega, HU6.out, by rw [List.map_append]; exact h6, HQ6.out.kept k6 (fun he => by have h8 : w.heap.size = gt := Option.some.inj he; omega), hb12.trans (k6.below hb12.size fun g hg he => by have h8 : g = gt := Option.some.inj he; omega), HS6.out, HNX.out⟩
                  case measure => simp [intOf]; omega
                · have hvb : ((vN : Int) == y) = false := by rw [beq_eq_false_iff_ne]; exact hvy
                  have hfz : (fv == 0) = true := by rw [beq_iff_eq]; exact hor.resolve_left hvy
                  clear hor hvy tz
                  go_wp2_with (at_builtin; refine app1 rfl (.tmp 85) (.tmp 87) rfl rfl HO6.out (vN : Int) rfl hq17 hbs5 ?_; intro v6 w6 h6 k6)
                  go_roundw
                  case rel => exact ⟨i + 1, q' ++ [((vN : Int), (i : Int))], by go_num, by omega, HU6.out, by rw [List.map_append]; exact h6, HQ6.out.kept k6 (fun he => by have h8 : w.heap.size = gt := Option.some.inj he; omega), hb12.trans (k6.below hb12.size fun g hg he => by have h8 : g = gt := Option.some.inj he; omega), HS6.out, HNX.out⟩
                  case measure => simp [intOf]; omega
              · rw [not_or] at hor
                have hvb : ((vN : Int) == y) = false := by rw [beq_eq_false_iff_ne]; exact hor.1
                have hfz : (fv == 0) = false := by rw [beq_eq_false_iff_ne]; exact hor.2
                have HFD := Lib.hid (show findP l x y (F, T, P) = some (movF F (vN : Int) x, back (q' ++ [((vN : Int), (i : Int))]) x 10 (vN : Int) T, P) by
                  have hin : inner l (F, T, P) y u.1 (List.range m) q = (q' ++ [((vN : Int), (i : Int))], some (vN : Int)) := by
                    rw [HIN.out, HDR.out, inner, if_pos HVA.out, if_neg (by rw [HV.out]; exact HNS.out), if_neg (by rw [HV.out, Int.toNat_natCast]; show ¬ (_ ∨ gI F vN = 0); rw [← HFV.out, not_or]; exact hor), HV.out]
                  unfold findP
                  rw [HOUT.out, show 10 - j = (10 - (j + 1)) + 1 by omega, outer_step HUU.out]
                  show (match (match inner l (F, T, P) y u.1 (List.range P.length) q with | (q', some v) => some (q', v) | (q', none) => outer l (F, T, P) y (10 - (j + 1)) (j + 1) q') with | none => _ | some (q, v) => _) = _
                  rw [HM.out, hin])
                clear hor HO6
                go_upto_region 17 with (fail)
                have HC6 := Lib.hid (HCB.out.setF vN (fv - 1))
                have HQ7 := Lib.hid (HQ6.out.kept (setKept (b := gF) (j := vN) (x := .int .i64 (fv - 1))) (by omega))
                have hb13 : Kept (PK (.slice (some ⟨gF, 0, none⟩) n cF) (.slice (some ⟨gT, 0, none⟩) m cT)) w (w5.setCell ⟨gF, vN, none⟩ (.int .i64 (fv - 1))) := setPF (Kept.of_below hb12)
                clear tf tz hc0 hsF HCB hb12 HQ6 hgt2
                generalize w5.setCell ⟨gF, vN, none⟩ (.int .i64 (fv - 1)) = w6 at *
                obtain ⟨xN, rfl⟩ := Int.eq_ofNat_of_zero_le hx.1
                have CB := HC6.out
                have hc0 := CB.c0
                have hsb := CB.hi
                have tf := CB.oF.gcell (k := xN) (by show xN < (F.set vN (fv - 1)).length; rw [List.length_set]; have := HLF.out; omega)
                have tz := CB.oF.gfroz xN
                have hsF : gF < w6.heap.size := (CB.oF.lt _ rfl).2
                have hxI : (xN : Int) < (n : Int) := by omega
                dsimp only at tf
                obtain ⟨fx, hfx⟩ : ∃ fx, fx = gI (F.set vN (fv - 1)) xN := ⟨_, rfl⟩
                rw [← hfx] at tf
                have hfxb : -1 ≤ fx ∧ fx ≤ 64 := by
                  have hfr := HI.out.fr xN (by omega)
                  dsimp only at hfr
                  rw [hfx, gI_set (by have := HLF.out; omega)]
                  split <;> omega
                have HFX := Lib.hid hfx
                clear hfx CB
                go_upto_region 18 with (fail)
                have HC7 := Lib.hid (HC6.out.setF xN (fx + 1))
                have HQ8 := Lib.hid (HQ7.out.kept (setKept (b := gF) (j := xN) (x := .int .i64 (fx + 1))) (by omega))
                have hb14 : Kept (PK (.slice (some ⟨gF, 0, none⟩) n cF) (.slice (some ⟨gT, 0, none⟩) m cT)) w (w6.setCell ⟨gF, xN, none⟩ (.int .i64 (fx + 1))) := setPF hb13
                clear tf tz hc0 hsF HC6 hb13 HQ7
                generalize w6.setCell ⟨gF, xN, none⟩ (.int .i64 (fx + 1)) = w7 at *
                have HMV := Lib.hid (show (F.set vN (fv - 1)).set xN (fx + 1) = movF F (vN : Int) (xN : Int) by
                  unfold movF; rw [HFX.out, HFV.out]; rfl)
                dsimp only at HC7
                rw [HMV.out] at HC7
                obtain ⟨F2, hF2⟩ : ∃ F2, F2 = movF F (vN : Int) (xN : Int) := ⟨_, rfl⟩
                rw [← hF2] at HC7 HFD
                obtain ⟨QQ, hQQ⟩ : ∃ QQ, QQ = q' ++ [((vN : Int), (i : Int))] := ⟨_, rfl⟩
                have HUL : Hid (QQ[q'.length]? = some ((vN : Int), (i : Int))) := Lib.hid (by rw [hQQ]; simp)
                rw [← hQQ] at HFD HQ8 HS6
                clear hF2 hQQ
                go_wp2_with fail
                go_loopw [17] (fun z w9 => ∃ (f i' : Nat) (u' : Int × Int) (T' : List Int), z = .int .i64 u'.1 ∧ QQ[i']? = some u' ∧ i' < f ∧ Agree (F, T, P) QQ T' i' ∧ PebC W.heap.size w9 pb (.slice (some ⟨gF, 0, none⟩) n cF) (.slice (some ⟨gT, 0, none⟩) m cT) (.slice (some ⟨gP, 0, none⟩) m cP) (F2, T', P) ∧ MapQ w9 w.heap.size QQ ∧ Kept (PK (.slice (some ⟨gF, 0, none⟩) n cF) (.slice (some ⟨gT, 0, none⟩) m cT)) w w9 ∧ back QQ (xN : Int) 10 (vN : Int) T = back QQ (xN : Int) f u'.1 T') (fun z _ => posQ QQ (intOf z))
                case atStart => exact ⟨10, q'.length, ((vN : Int), (i : Int)), T, rfl, HUL.out, by omega, Agree.start, HC7.out, HQ8.out, hb14, rfl⟩
                case round =>
                  clear HC7 HQ8 hb14
                  obtain ⟨f, i', ⟨z, z2⟩, T', rfl, hu2, hif, hag, hpc, hmq2, hb15, hbk⟩ := hrel
                  dsimp only at hbk
                  by_cases hzx : z = (xN : Int)
                  · have hzb : (z != (xN : Int)) = false := by rw [hzx]; simp
                    have HBK := Lib.hid (show findP l (xN : Int) y (F, T, P) = some (F2, T', P) by
                      rw [HFD.out, hbk, hzx, back_at (by omega)])
                    have HPC := Lib.hid hpc
                    clear hzx hbk hpc hu2 hag hmq2
                    go_wp2_with fail
                    go_ret
                    rw [HBK.out]
                    exact ⟨rfl, HPC.out, hb15⟩
                  · have hzb : (z != (xN : Int)) = true := by simpa using hzx
                    have hi0 : i' ≠ 0 := fun e0 => by
                      subst e0
                      rw [HS6.out.hd] at hu2
                      simp only [Option.some.injEq, Prod.mk.injEq] at hu2
                      exact hzx hu2.1.symm
                    obtain ⟨j2, i2, ⟨y1, y2⟩, g1, g2, g3, g4, g5, g6, g7, g8, g9⟩ := hag.step HI.out HS6.out hu2 hi0
                    dsimp only at g1 g2 g3 g6 g7 g8 g9
                    have hj2 : j2 < m := by have := HM.out; omega
                    have hlT' : T'.length = m := hag.1.trans HLT.out
                    have hat2 := mapD_at HS6.out.nd (v := z) (seenQ_iff.2 (List.mem_map.2 ⟨_, List.mem_of_getElem? hu2, rfl⟩)) (.lit (.int .i64 0))
                    rw [g2] at hat2
                    have HAT := Lib.hid hat2
                    have c1 := hpc.c1
                    have hsb9 := hpc.hi
                    have tt := hpc.oT.gcell (k := j2) (by show j2 < T'.length; omega)
                    have tz := hpc.oT.gfroz j2
                    have hsT9 : gT < wr.heap.size := (hpc.oT.lt _ rfl).2
                    dsimp only at tt
                    rw [g6] at tt
                    have hjI : (j2 : Int) < (m : Int) := by omega
                    have hjI0 : (0 : Int) ≤ (j2 : Int) := by omega
                    have hzr : -4611686018427387904 ≤ z ∧ z ≤ 4611686018427387904 := by
                      have := HS6.out.bd _ (List.mem_of_getElem? hu2)
                      dsimp only at this
                      omega
                    obtain ⟨f, rfl⟩ : ∃ g, f = g + 1 := ⟨f - 1, by omega⟩
                    have HBK := Lib.hid (show back QQ (xN : Int) 10 (vN : Int) T = back QQ (xN : Int) f y1 (T'.set j2 z) by
                      rw [hbk, back, if_neg hzx, g2, Int.toNat_natCast, g6])
                    have HPC := Lib.hid hpc
                    have HMQ := Lib.hid hmq2
                    have HG := Lib.hid (And.intro g5 (And.intro g4 g9))
                    have HU2 := Lib.hid hu2
                    clear hbk hpc hmq2 hu2 hag g1 g2 g3 g5 g6 g7 g8 g9 hat2 hlT' hi0 hzx
                    go_wp2_with (at_lookup; refine wpList_lookup_own_int _ rfl _ _ 181 rfl 3 3 .i64 lawInt Tryz.underlying181 Tryz.underlying3 (zeroInt _) w.heap.size QQ.length (mapD QQ) rfl HMQ.out _ _ rfl (keyI hzr) ?_; intro c hat hwc; obtain rfl : c = (j2 : Int) := (by have h9 := hat.symm.trans HAT.out; simpa [litI] using h9); clear hat hwc)
                    go_roundw
                    case rel => exact ⟨f, i2, (y1, y2), T'.set j2 z, rfl, HG.out.1, by omega, HG.out.2.2, HPC.out.setT j2 z, HMQ.out.kept (setKept (b := gT)) (by omega), setPT hb15, HBK.out⟩
                    case measure =>
                      have p1 := posQ_at HS6.out.nd HG.out.1
                      have p2 := posQ_at HS6.out.nd HU2.out
                      dsimp only at p1 p2
                      simp only [intOf]
                      omega
          · have htn : (tv != uv) = true := by simpa using htu
            have HNX := Lib.hid (show inner l (F, T, P) y u.1 (List.range m) q = inner l (F, T, P) y u.1 ((List.range m).drop (i + 1)) q' by
              rw [HIN.out, HDR.out, inner, if_neg (by show ¬ gI T i = u.1; rw [← HTV.out, ← HUV.out]; exact htu)])
            clear htu
            go_wp2_with fail
            go_quiet (fail)
            obtain ⟨n1, hn1⟩ : ∃ n1, n1 = nq := ⟨_, rfl⟩
            subst hn1
            have bd : Below wr.heap.size wr (wr.drewN n1) := drN_below (Below.refl _ _) n1
            have hb10 := drN_below hb9 n1
            have HO4 := Lib.hid (HO3.out.below bd)
            have HQ4 := Lib.hid (HQ.out.below bd)
            clear t0 t1 t2 d0 d1 hc0 hc1 hc2 bd
            go_wp2_with fail
            go_roundw
            case rel => exact ⟨i + 1, q', by go_num, by omega, HU'.out, HO4.out, HQ4.out, hb10, HS.out, HNX.out⟩
            case measure => simp [intOf]; omega
        · obtain rfl : i = m := by omega
          have HNX := Lib.hid (show inner l (F, T, P) y u.1 (List.range i) q = (q', none) by
            rw [HIN.out, List.drop_of_length_le (by simp)]; rfl)
          have HOX := Lib.hid (show outer l (F, T, P) y 10 0 [(x, -1)] = outer l (F, T, P) y (10 - (j + 1)) (j + 1) q' by
            rw [HOUT.out, show 10 - j = (10 - (j + 1)) + 1 by omega, outer_step HUU.out]
            show (match inner l (F, T, P) y u.1 (List.range P.length) q with | (q', some v) => _ | (q', none) => _) = _
            rw [HM.out, HNX.out])
          go_wp2_with fail
          go_roundw
          case rel => exact ⟨j + 1, q', by go_num, by omega, HO.out, HQ.out, hb9, HS.out, HOX.out⟩
          case measure => simp [intOf]; omega
    · obtain rfl : j = q.length := by omega
      have HNO := Lib.hid (show findP l x y (F, T, P) = none by
        unfold findP
        rw [HOUT.out]
        obtain ⟨f, hf⟩ : ∃ f, 10 - q.length = f + 1 := ⟨9 - q.length, by omega⟩
        rw [hf, outer, List.getElem?_eq_none (Nat.le_refl _)])
      obtain ⟨gt, ct, rfl, hgt1, hgt2⟩ := ownForm HO.out (by have := HS.out.hd; rcases q with _ | ⟨z, t⟩ <;> simp at *)
      rw [List.length_map]
      go_wp2_with fail
      go_ret
      rw [HNO.out]
      exact ⟨rfl, HC.out.below hb9, Kept.of_below hb9⟩

structure Peb3 (base : Nat) (w : World) (vF vT vP : Value) (S : PebT) : Prop where
  oF : OwnInts w base vF S.1
  oT : OwnInts w base vT S.2.1
  oP : OwnInts w base vP S.2.2
  dFT : ∀ k, vF.ownBlock = some k → vT.ownBlock ≠ some k
  dFP : ∀ k, vF.ownBlock = some k → vP.ownBlock ≠ some k
  dTP : ∀ k, vT.ownBlock = some k → vP.ownBlock ≠ some k
def OwnPeb (base : Nat) (w : World) (v : Value) (S : PebT) : Prop := ∃ vF vT vP, v = .agg #[vF, vT, vP] ∧ Peb3 base w vF vT vP S
def RetPeb (W : World) (S : PebT) (e : Ending) (w' : World) : Prop := ∃ v, e = .returned v ∧ OwnPeb W.heap.size w' v S ∧ Below W.heap.size W w'
theorem Peb3.kept {K : Nat → Prop} {base : Nat} {w w' : World} {vF vT vP : Value} {S : PebT} (h : Peb3 base w vF vT vP S) (hk : Kept K w w') (hF : ∀ k, vF.ownBlock = some k → ¬ K k) (hT : ∀ k, vT.ownBlock = some k → ¬ K k) (hP : ∀ k, vP.ownBlock = some k → ¬ K k) : Peb3 base w' vF vT vP S :=
  ⟨hk.ownsRow h.oF hF, hk.ownsRow h.oT hT, hk.ownsRow h.oP hP, h.dFT, h.dFP, h.dTP⟩
theorem Peb3.below {base : Nat} {w w' : World} {vF vT vP : Value} {S : PebT} (h : Peb3 base w vF vT vP S) (hb : Below w.heap.size w w') : Peb3 base w' vF vT vP S :=
  h.kept (Kept.of_below (S := fun _ => False) hb) (fun _ _ => id) (fun _ _ => id) (fun _ _ => id)
structure PebIs (w : World) (vF vT vP : Value) (S : PebT) : Prop where
  iF : IsInts w vF S.1
  iT : IsInts w vT S.2.1
  iP : IsInts w vP S.2.2
theorem PebIs.below {w w' : World} {vF vT vP : Value} {S : PebT} (h : PebIs w vF vT vP S) (hb : Below w.heap.size w w') : PebIs w' vF vT vP S := ⟨h.iF.below hb, h.iT.below hb, h.iP.below hb⟩
theorem Peb3.is {base : Nat} {w : World} {vF vT vP : Value} {S : PebT} (h : Peb3 base w vF vT vP S) : PebIs w vF vT vP S := ⟨h.oF.form, h.oT.form, h.oP.form⟩

def ZerP (w : World) (g : Nat) : Prop := (∃ a b c, w.cell? ⟨g, 0, none⟩ = some a ∧ w.cell? ⟨g, 1, none⟩ = some b ∧ w.cell? ⟨g, 2, none⟩ = some c) ∧ (w.frozen? ⟨g, 0, none⟩ = false ∧ w.frozen? ⟨g, 1, none⟩ = false ∧ w.frozen? ⟨g, 2, none⟩ = false) ∧ g < w.heap.size
theorem ZerP.at3 (w : World) (ty : TypeId) (a b c : Value) : ZerP (w.alloc (.cells #[a, b, c] ty)) w.heap.size :=
  ⟨⟨a, b, c, by simp [World.cell?_alloc_new], by simp [World.cell?_alloc_new], by simp [World.cell?_alloc_new]⟩, ⟨by simp [World.frozen?_alloc_new], by simp [World.frozen?_alloc_new], by simp [World.frozen?_alloc_new]⟩, by simp⟩
theorem ZerP.at (w : World) (ty : TypeId) : ZerP (w.alloc (.cells #[.slice none 0 0, .slice none 0 0, .slice none 0 0] ty)) w.heap.size := ZerP.at3 w ty _ _ _
theorem ZerP.kept {S : Nat → Prop} {w w' : World} {g : Nat} (h : ZerP w g) (hk : Kept S w w') (hs : ¬ S g) : ZerP w' g := by
  obtain ⟨⟨a, b, c, c0, c1, c2⟩, ⟨f0, f1, f2⟩, hz⟩ := h
  exact ⟨⟨a, b, c, (hk.cell hz hs).trans c0, (hk.cell hz hs).trans c1, (hk.cell hz hs).trans c2⟩, ⟨(hk.frozen hz hs).trans f0, (hk.frozen hz hs).trans f1, (hk.frozen hz hs).trans f2⟩, Nat.lt_of_lt_of_le hz hk.size⟩
theorem ZerP.below {w w' : World} {g : Nat} (h : ZerP w g) (hb : Below w.heap.size w w') : ZerP w' g := h.kept (Kept.of_below (S := fun _ => False) hb) id
theorem Peb3.set {base : Nat} {w : World} {vF vT vP : Value} {S : PebT} (h : Peb3 base w vF vT vP S) {p : Addr} (hp : p.block < base) (u : Value) : Peb3 base (w.setCell p u) vF vT vP S :=
  ⟨ownsRow_setCell_below h.oF hp u, ownsRow_setCell_below h.oT hp u, ownsRow_setCell_below h.oP hp u, h.dFT, h.dFP, h.dTP⟩
theorem Peb3.low {base base' : Nat} {w : World} {vF vT vP : Value} {S : PebT} (h : Peb3 base w vF vT vP S) (hb : base' ≤ base) : Peb3 base' w vF vT vP S :=
  ⟨ownsRow_base h.oF hb, ownsRow_base h.oT hb, ownsRow_base h.oP hb, h.dFT, h.dFP, h.dTP⟩

theorem laidP {W w : World} {vF vT vP : Value} {S : PebT} {lo g : Nat} (h : Peb3 lo w vF vT vP S) (hg : W.heap.size ≤ g) (hgl : g < lo) (hlo : W.heap.size ≤ lo) (hbe : Below W.heap.size W w) :
    OwnPeb W.heap.size (((w.setCell ⟨g, 0, none⟩ vF).setCell ⟨g, 1, none⟩ vT).setCell ⟨g, 2, none⟩ vP) (.agg #[vF, vT, vP]) S ∧ Below W.heap.size W (((w.setCell ⟨g, 0, none⟩ vF).setCell ⟨g, 1, none⟩ vT).setCell ⟨g, 2, none⟩ vP) :=
  ⟨⟨_, _, _, rfl, (((h.set (p := ⟨g, 0, none⟩) hgl _).set (p := ⟨g, 1, none⟩) hgl _).set (p := ⟨g, 2, none⟩) hgl _).low hlo⟩, ((hbe.setCell (p := ⟨g, 0, none⟩) hg _).setCell (p := ⟨g, 1, none⟩) hg _).setCell (p := ⟨g, 2, none⟩) hg _⟩

set_option maxHeartbeats 4000000 in
theorem implCpP_at (W : World) (vF vT vP : Value) (S : PebT) (h : PebIs W vF vT vP S) (hl : S.1.length ≤ 1048576 ∧ S.2.1.length ≤ 1048576 ∧ S.2.2.length ≤ 1048576) :
    Calls Tryz.prog 172 #[.agg #[vF, vT, vP]] W (RetPeb W S) := by
  have HI := Lib.hid h
  clear h
  have b0 : Below W.heap.size W ((W.alloc (.cells #[vF, vT, vP] 117)).alloc (.cells #[.slice none 0 0, .slice none 0 0, .slice none 0 0] 117)) := ((Below.refl _ W).alloc (Nat.le_refl _) _).alloc (by simp) _
  have f0 : ((W.alloc (.cells #[vF, vT, vP] 117)).alloc (.cells #[.slice none 0 0, .slice none 0 0, .slice none 0 0] 117)).cell? ⟨W.heap.size, 0, none⟩ = some vF := by simp [World.cell?_alloc_new]
  have f1 : ((W.alloc (.cells #[vF, vT, vP] 117)).alloc (.cells #[.slice none 0 0, .slice none 0 0, .slice none 0 0] 117)).cell? ⟨W.heap.size, 1, none⟩ = some vT := by simp [World.cell?_alloc_new]
  have f2 : ((W.alloc (.cells #[vF, vT, vP] 117)).alloc (.cells #[.slice none 0 0, .slice none 0 0, .slice none 0 0] 117)).cell? ⟨W.heap.size, 2, none⟩ = some vP := by simp [World.cell?_alloc_new]
  have hu : ((W.alloc (.cells #[vF, vT, vP] 117)).alloc (.cells #[.slice none 0 0, .slice none 0 0, .slice none 0 0] 117)).heap.size = W.heap.size + 2 := by simp
  have HF := Lib.hid (And.intro f0 (And.intro f1 f2))
  clear f0 f1 f2
  have HZ : Hid (ZerP ((W.alloc (.cells #[vF, vT, vP] 117)).alloc (.cells #[.slice none 0 0, .slice none 0 0, .slice none 0 0] 117)) (W.heap.size + 1)) := Lib.hid (by have := ZerP.at (W.alloc (.cells #[vF, vT, vP] 117)) 117; rwa [World.size_alloc] at this)
  go_enter Tryz.func172, Tryz.ntmps172
  go_wp2_with fail
  have HCC : Hid (∀ (w1 : World) (v : Value) (l : List Int), IsInts w1 v l → l.length ≤ 1048576 → Calls Tryz.prog 111 #[v] w1 (RetInts w1 l)) := Lib.hid fun w1 v l hi hn => copyInts_is w1 v l hi (by omega)
  generalize ((W.alloc (.cells #[vF, vT, vP] 117)).alloc (.cells #[.slice none 0 0, .slice none 0 0, .slice none 0 0] 117)) = u at *
  have hl1 := hl.1
  have hl2 := hl.2.1
  have hl3 := hl.2.2
  have SK : Hid (∀ w', Below u.drew.heap.size u.drew w' → w'.cell? ⟨W.heap.size, 0, none⟩ = some vF ∧ w'.cell? ⟨W.heap.size, 1, none⟩ = some vT ∧ w'.cell? ⟨W.heap.size, 2, none⟩ = some vP) := Lib.hid fun w' hb => ⟨((bcell hb).1 _ _ (by show W.heap.size < u.heap.size; omega)).trans HF.out.1, ((bcell hb).1 _ _ (by show W.heap.size < u.heap.size; omega)).trans HF.out.2.1, ((bcell hb).1 _ _ (by show W.heap.size < u.heap.size; omega)).trans HF.out.2.2⟩
  have bd : Below u.drew.heap.size u.drew u.drew := Below.refl _ _
  have bu : Below W.heap.size W u.drew := b0.drew
  have hud : W.heap.size + 2 ≤ u.drew.heap.size := by show _ ≤ u.heap.size; omega
  refine wp_regionZ (fun w' => w'.cell? ⟨W.heap.size, 0, none⟩ = some vF ∧ w'.cell? ⟨W.heap.size, 1, none⟩ = some vT ∧ w'.cell? ⟨W.heap.size, 2, none⟩ = some vP) 10 (by kernel_rfl) ?_
  refine wpAnyZ_take (i := 0) (v := ?_) rfl (by kernel_rfl) (by kernel_rfl) (by kernel_rfl) (by kernel_rfl) (by kernel_rfl) (fun _ _ _ h => h) (SK.out _ bd) (by rfl) ?_ ?_
  rotate_left
  · intro x hx; obtain ⟨x1, x2, x3⟩ := hx; go_simp; try (with_reducible rfl)
  try simp only [Act.put, List.setIfInBounds_toArray, List.set_cons_zero, List.set_cons_succ]
  refine wpAnyZ_take (i := 1) (v := ?_) rfl (by kernel_rfl) (by kernel_rfl) (by kernel_rfl) (by kernel_rfl) (by kernel_rfl) (fun _ _ _ h => h) (SK.out _ bd) (by rfl) ?_ ?_
  rotate_left
  · intro x hx; obtain ⟨x1, x2, x3⟩ := hx; go_simp; try (with_reducible rfl)
  try simp only [Act.put, List.setIfInBounds_toArray, List.set_cons_zero, List.set_cons_succ]
  refine wpAnyZ_take (i := 3) (v := ?_) rfl (by kernel_rfl) (by kernel_rfl) (by kernel_rfl) (by kernel_rfl) (by kernel_rfl) (fun _ _ _ h => h) (SK.out _ bd) (by rfl) ?_ ?_
  rotate_left
  · intro x hx; obtain ⟨x1, x2, x3⟩ := hx; go_simp; try (with_reducible rfl)
  try simp only [Act.put, List.setIfInBounds_toArray, List.set_cons_zero, List.set_cons_succ]
  refine wpAnyZ_take (i := 4) (v := ?_) rfl (by kernel_rfl) (by kernel_rfl) (by kernel_rfl) (by kernel_rfl) (by kernel_rfl) (fun _ _ _ h => h) (SK.out _ bd) (by rfl) ?_ ?_
  rotate_left
  · intro x hx; obtain ⟨x1, x2, x3⟩ := hx; go_simp; try (with_reducible rfl)
  try simp only [Act.put, List.setIfInBounds_toArray, List.set_cons_zero, List.set_cons_succ]
  refine wpAnyZ_take (i := 6) (v := ?_) rfl (by kernel_rfl) (by kernel_rfl) (by kernel_rfl) (by kernel_rfl) (by kernel_rfl) (fun _ _ _ h => h) (SK.out _ bd) (by rfl) ?_ ?_
  rotate_left
  · intro x hx; obtain ⟨x1, x2, x3⟩ := hx; go_simp; try (with_reducible rfl)
  try simp only [Act.put, List.setIfInBounds_toArray, List.set_cons_zero, List.set_cons_succ]
  refine wpAnyZ_take (i := 7) (v := ?_) rfl (by kernel_rfl) (by kernel_rfl) (by kernel_rfl) (by kernel_rfl) (by kernel_rfl) (fun _ _ _ h => h) (SK.out _ bd) (by rfl) ?_ ?_
  rotate_left
  · intro x hx; obtain ⟨x1, x2, x3⟩ := hx; go_simp; try (with_reducible rfl)
  try simp only [Act.put, List.setIfInBounds_toArray, List.set_cons_zero, List.set_cons_succ]
  refine wpAnyZ_step (i := 2) (by kernel_rfl) rfl (by rfl) ?_
  intro KK hKK
  go_simp
  go_at_call 111
  refine (HCC.out _ _ _ (HI.out.iF.below bu) hl1).mono ?_
  rintro e w1 ⟨v1, rfl, o1, b1⟩
  obtain ⟨a1, c1, rfl, -⟩ := o1.form
  have O1 := Lib.hid o1
  have bd1 := bd.step b1
  have bu1 := bu.step b1
  clear o1
  go_wp2_with fail
  refine hKK.out _ _ (.inr (SK.out _ bd1)) ?_
  clear hKK KK
  try simp only [Act.put, List.setIfInBounds_toArray, List.set_cons_zero, List.set_cons_succ]
  refine wpAnyZ_step (i := 5) (by kernel_rfl) rfl (by rfl) ?_
  intro KK hKK
  go_simp
  go_at_call 111
  refine (HCC.out _ _ _ (HI.out.iT.below bu1) hl2).mono ?_
  rintro e w2 ⟨v2, rfl, o2, b2⟩
  obtain ⟨a2, c2, rfl, -⟩ := o2.form
  have O2 := Lib.hid o2
  have bd2 := bd1.step b2
  have bu2 := bu1.step b2
  clear o2
  go_wp2_with fail
  refine hKK.out _ _ (.inr (SK.out _ bd2)) ?_
  clear hKK KK
  try simp only [Act.put, List.setIfInBounds_toArray, List.set_cons_zero, List.set_cons_succ]
  refine wpAnyZ_step (i := 8) (by kernel_rfl) rfl (by rfl) ?_
  intro KK hKK
  go_simp
  go_at_call 111
  refine (HCC.out _ _ _ (HI.out.iP.below bu2) hl3).mono ?_
  rintro e w3 ⟨v3, rfl, o3, b3⟩
  obtain ⟨a3, c3, rfl, -⟩ := o3.form
  have O3 := Lib.hid o3
  have bd3 := bd2.step b3
  have bu3 := bu2.step b3
  clear o3
  go_wp2_with fail
  refine hKK.out _ _ (.inr (SK.out _ bd3)) ?_
  clear hKK KK
  try simp only [Act.put, List.setIfInBounds_toArray, List.set_cons_zero, List.set_cons_succ]
  refine wpAnyZ_take (i := 9) (v := ?_) rfl (by kernel_rfl) (by kernel_rfl) (by kernel_rfl) (by kernel_rfl) (by kernel_rfl) (fun _ _ _ h => h) (SK.out _ bd3) (by rfl) ?_ ?_
  rotate_left
  · intro x hx; obtain ⟨x1, x2, x3⟩ := hx; go_simp; try (with_reducible rfl)
  try simp only [Act.put, List.setIfInBounds_toArray, List.set_cons_zero, List.set_cons_succ]
  have hlt : W.heap.size + 1 < w3.heap.size := by have := bu3.size; have := bd3.size; omega
  obtain ⟨⟨z0, z1, z2, y0, y1, y2⟩, ⟨g0, g1, g2⟩, gz⟩ := (HZ.out.below ((Below.refl _ u).drew.step bd3))
  have P3 : Hid (Peb3 u.drew.heap.size w3 (.slice a1 S.1.length c1) (.slice a2 S.2.1.length c2) (.slice a3 S.2.2.length c3) S) := Lib.hid ⟨(O1.out.below b2).below b3, ownsRow_base (O2.out.below b3) (Nat.le_trans bd1.size (Nat.le_refl _)), ownsRow_base O3.out bd2.size, own_ne O1.out O2.out (Nat.le_refl _), own_ne (O1.out.below b2) O3.out (Nat.le_refl _), own_ne O2.out O3.out (Nat.le_refl _)⟩
  refine wpAnyZ_step (i := 10) (by kernel_rfl) rfl (by rfl) ?_
  intro KK hKK
  go_simp
  refine hKK.out _ _ (.inl (by kernel_rfl)) ?_
  clear hKK KK
  try simp only [Act.put, List.setIfInBounds_toArray, List.set_cons_zero, List.set_cons_succ]
  refine wpAnyZ_done (by kernel_rfl) ?_ _
  go_wp2_with fail
  have HLD := Lib.hid (laidP P3.out (g := W.heap.size + 1) (by omega) (by omega) (by omega) bu3)
  refine bodyPost_ret (v := .agg #[.slice a1 S.1.length c1, .slice a2 S.2.1.length c2, .slice a3 S.2.2.length c3]) (by simp [results, Tryz.results172, go_sem, gz, y0, y1, y2]) rfl ⟨_, rfl, HLD.out.1, HLD.out.2⟩

theorem gatherP_stop {l : List BarT} {x y want : Int} {S : PebT} (h : ¬ gI S.1 x.toNat + gI S.1 y.toNat < want) : ∀ f, gatherP l x y want f S = (S, true)
  | 0 => rfl
  | f + 1 => by rw [gatherP, if_neg h]
theorem gatherP_go1 {l : List BarT} {x y want : Int} {S S' : PebT} {f : Nat} (h : gI S.1 x.toNat + gI S.1 y.toNat < want) (h1 : findP l x y S = some S') : gatherP l x y want (f + 1) S = gatherP l x y want f S' := by
  rw [gatherP, if_pos h]; simp only [h1]
theorem gatherP_go2 {l : List BarT} {x y want : Int} {S S' : PebT} {f : Nat} (h : gI S.1 x.toNat + gI S.1 y.toNat < want) (h1 : findP l x y S = none) (h2 : findP l y x S = some S') : gatherP l x y want (f + 1) S = gatherP l x y want f S' := by
  rw [gatherP, if_pos h]; simp only [h1, h2]
theorem gatherP_no {l : List BarT} {x y want : Int} {S : PebT} {f : Nat} (h : gI S.1 x.toNat + gI S.1 y.toNat < want) (h1 : findP l x y S = none) (h2 : findP l y x S = none) : gatherP l x y want (f + 1) S = (S, false) := by
  rw [gatherP, if_pos h]; simp only [h1, h2]

set_option maxHeartbeats 8000000 in
theorem gather_at (W w : World) (hW : Below W.heap.size W w) (n E : Nat) (k : Int) (hn : n ≤ 8) (hk : k ≤ 64) (a : Option Addr) (cap : Nat) (l : List BarT) (h : BarsAt W a l.length l) (hl : l.length ≤ 1048576) (hb : Bok n l) (hE : E ≤ l.length) (S : PebT) (hI : Inv n k l E S) (x y : Int) (hx : 0 ≤ x ∧ x < n) (hy : 0 ≤ y ∧ y < n) (hxy : x ≠ y) (want : Int) (hw : want ≤ 7) (pb : Nat) (vF vT vP : Value) (hP : PebC W.heap.size w pb vF vT vP S) :
    Calls Tryz.prog 178 #[.slice a l.length cap, .pointer (some ⟨pb, 0, none⟩), .int .i64 x, .int .i64 y, .int .i64 want] w fun e w' => e = .returned (.bool (gatherP l x y want 7 S).2) ∧ PebC W.heap.size w' pb vF vT vP (gatherP l x y want 7 S).1 ∧ Kept (PK vF vT) w w' := by
  obtain ⟨gF, cF, rfl, -, -⟩ := ownForm hP.oF (by rw [hI.len]; omega)
  rw [hI.len] at *
  have H1 := Lib.hid h
  have HB := Lib.hid hb
  have HI := Lib.hid hI
  have HP := Lib.hid hP
  have HW := Lib.hid hW
  obtain ⟨xN, rfl⟩ := Int.eq_ofNat_of_zero_le hx.1
  obtain ⟨yN, rfl⟩ := Int.eq_ofNat_of_zero_le hy.1
  have hM := fun (w1 : World) (b : Below W.heap.size W w1) (F T P : List Int) (hi : Inv n k l E (F, T, P)) (hp : PebC W.heap.size w1 pb (.slice (some ⟨gF, 0, none⟩) n cF) vT vP (F, T, P)) => moveTo_at W w1 b n E k hn hk a cap l H1.out hl HB.out hE F T P hi (xN : Int) (yN : Int) hx hy hxy pb (.slice (some ⟨gF, 0, none⟩) n cF) vT vP hp
  have hM2 := fun (w1 : World) (b : Below W.heap.size W w1) (F T P : List Int) (hi : Inv n k l E (F, T, P)) (hp : PebC W.heap.size w1 pb (.slice (some ⟨gF, 0, none⟩) n cF) vT vP (F, T, P)) => moveTo_at W w1 b n E k hn hk a cap l H1.out hl HB.out hE F T P hi (yN : Int) (xN : Int) hy hx (Ne.symm hxy) pb (.slice (some ⟨gF, 0, none⟩) n cF) vT vP hp
  have HM := Lib.hid hM
  have HM2 := Lib.hid hM2
  clear h hb hI hP hW hM hM2
  go_enter Tryz.func178, Tryz.ntmps178
  go_wp2_with fail
  go_loopg [10] 7 (fun f s wr => ∃ S', Inv n k l E S' ∧ PebC W.heap.size wr pb (.slice (some ⟨gF, 0, none⟩) n cF) vT vP S' ∧ Kept (PK (.slice (some ⟨gF, 0, none⟩) n cF) vT) w wr ∧ want ≤ gI S'.1 xN + gI S'.1 yN + f ∧ gatherP l (xN : Int) (yN : Int) want 7 S = gatherP l (xN : Int) (yN : Int) want f S')
  case atStart =>
    have f1 := (HI.out.fr xN (by omega)).1
    have f2 := (HI.out.fr yN (by omega)).1
    exact ⟨S, HI.out, HP.out, Kept.refl _ _, by omega, rfl⟩
  case round =>
    clear HI
    obtain ⟨⟨F, T, P⟩, hI, hC, hkw, hwf, hg⟩ := hrel
    have hlF : F.length = n := hI.len
    have hbw := HP.out.keptBelow HW.out hkw
    clear HP
    have hc0 := hC.c0
    have hsb := hC.hi
    have t0 := hC.oF.gcell (k := xN) (by show xN < F.length; omega)
    have t1 := hC.oF.gcell (k := yN) (by show yN < F.length; omega)
    have hsF : gF < wr.heap.size := (hC.oF.lt _ rfl).2
    dsimp only at t0 t1 hc0 hwf

    have e1 : (xN : Int) < (n : Int) := by omega
    have e2 : (yN : Int) < (n : Int) := by omega
    have f1 := hI.fr xN (by omega)
    have f2 := hI.fr yN (by omega)
    dsimp only at f1 f2
    have hfx : 0 ≤ gI F xN ∧ gI F xN ≤ 64 := by omega
    have hfy : 0 ≤ gI F yN ∧ gI F yN ≤ 64 := by omega
    have HI := Lib.hid hI
    have HP := Lib.hid hC
    have HG := Lib.hid hg
    clear hI hC hg hlF f1 f2
    obtain ⟨fx, hfx1⟩ : ∃ fx, fx = gI F xN := ⟨_, rfl⟩
    obtain ⟨fy, hfy1⟩ : ∃ fy, fy = gI F yN := ⟨_, rfl⟩
    rw [← hfx1] at t0 hfx hwf
    rw [← hfy1] at t1 hfy hwf
    have HFX := Lib.hid hfx1
    have HFY := Lib.hid hfy1
    clear hfx1 hfy1
    by_cases hlt : fx + fy < want
    · have hd : decide (fx + fy < want) = true := decide_eq_true hlt
      have HLT : Hid (gI F (xN : Int).toNat + gI F (yN : Int).toNat < want) := Lib.hid (by rw [Int.toNat_natCast, Int.toNat_natCast, ← HFX.out, ← HFY.out]; exact hlt)
      obtain ⟨g, rfl⟩ : ∃ g, gk = g + 1 := ⟨gk - 1, by omega⟩
      go_wp2_with fail
      go_quiet (fail)
      have bd : Below wr.heap.size wr (wr.drewN nq) := drN_below (Below.refl _ _) nq
      have hbw2 := drN_below hbw nq
      have hkw2 := hkw.trans (Kept.of_below bd)
      have HP2 := Lib.hid (HP.out.below bd)
      clear t0 t1 hc0 hsF hsb bd HP hbw hkw
      generalize wr.drewN nq = w2 at *
      go_wp2_with fail
      cases hf : findP l (xN : Int) (yN : Int) (F, T, P) with
      | some S' =>
        have HC := Lib.hid (show Calls Tryz.prog 180 #[.slice a l.length cap, .pointer (some ⟨pb, 0, none⟩), .int .i64 (xN : Int), .int .i64 (yN : Int)] w2 fun e w' => e = .returned (.bool true) ∧ PebC W.heap.size w' pb (.slice (some ⟨gF, 0, none⟩) n cF) vT vP S' ∧ Kept (PK (.slice (some ⟨gF, 0, none⟩) n cF) vT) w2 w' from by have := HM.out w2 hbw2 F T P HI.out HP2.out; rw [hf] at this; exact this)
        obtain ⟨i1, i2, i3, -⟩ := findP_ok HI.out HB.out hE hn hx hy hxy hf
        rw [Int.toNat_natCast] at i2 i3
        dsimp only at i2 i3
        rw [← HFX.out] at i2
        rw [← HFY.out] at i3
        have HN := Lib.hid (show gatherP l (xN : Int) (yN : Int) want 7 S = gatherP l (xN : Int) (yN : Int) want g S' by rw [HG.out]; exact gatherP_go1 HLT.out hf)
        have HI3 := Lib.hid (show Inv n k l E S' ∧ want ≤ gI S'.1 xN + gI S'.1 yN + g from ⟨i1, by rw [i2, i3]; omega⟩)
        clear hf i1 i2 i3
        refine HC.out.mono ?_
        rintro e w3 ⟨rfl, p3, b3⟩
        have P3 := Lib.hid p3
        have K3 := hkw2.trans b3
        clear p3 HC
        go_wp2_with fail
        go_roundg g
        case measure => omega
        case rel => exact ⟨S', HI3.out.1, P3.out, K3, HI3.out.2, HN.out⟩
      | none =>
        have HC := Lib.hid (show Calls Tryz.prog 180 #[.slice a l.length cap, .pointer (some ⟨pb, 0, none⟩), .int .i64 (xN : Int), .int .i64 (yN : Int)] w2 fun e w' => e = .returned (.bool false) ∧ PebC W.heap.size w' pb (.slice (some ⟨gF, 0, none⟩) n cF) vT vP (F, T, P) ∧ Kept (PK (.slice (some ⟨gF, 0, none⟩) n cF) vT) w2 w' from by have := HM.out w2 hbw2 F T P HI.out HP2.out; rw [hf] at this; exact this)
        refine HC.out.mono ?_
        rintro e w3 ⟨rfl, p3, b3⟩
        have P3 := Lib.hid p3
        have K3 := hkw2.trans b3
        clear p3 HC
        have HF0 := Lib.hid hf
        have hb3 := HP2.out.keptBelow hbw2 b3
        clear hf
        go_wp2_with fail
        cases hf2 : findP l (yN : Int) (xN : Int) (F, T, P) with
        | some S' =>
          have HC := Lib.hid (show Calls Tryz.prog 180 #[.slice a l.length cap, .pointer (some ⟨pb, 0, none⟩), .int .i64 (yN : Int), .int .i64 (xN : Int)] w3 fun e w' => e = .returned (.bool true) ∧ PebC W.heap.size w' pb (.slice (some ⟨gF, 0, none⟩) n cF) vT vP S' ∧ Kept (PK (.slice (some ⟨gF, 0, none⟩) n cF) vT) w3 w' from by have := HM2.out w3 hb3 F T P HI.out P3.out; rw [hf2] at this; exact this)
          obtain ⟨i1, i2, i3, -⟩ := findP_ok HI.out HB.out hE hn hy hx (Ne.symm hxy) hf2
          rw [Int.toNat_natCast] at i2 i3
          dsimp only at i2 i3
          rw [← HFY.out] at i2
          rw [← HFX.out] at i3
          have HN := Lib.hid (show gatherP l (xN : Int) (yN : Int) want 7 S = gatherP l (xN : Int) (yN : Int) want g S' by rw [HG.out]; exact gatherP_go2 HLT.out HF0.out hf2)
          have HI3 := Lib.hid (show Inv n k l E S' ∧ want ≤ gI S'.1 xN + gI S'.1 yN + g from ⟨i1, by rw [i2, i3]; omega⟩)
          clear hf2 i1 i2 i3
          refine HC.out.mono ?_
          rintro e w4 ⟨rfl, p4, b4⟩
          have P4 := Lib.hid p4
          have K4 := K3.trans b4
          clear p4 HC
          go_wp2_with fail
          go_roundg g
          case measure => omega
          case rel => exact ⟨S', HI3.out.1, P4.out, K4, HI3.out.2, HN.out⟩
        | none =>
          have HC := Lib.hid (show Calls Tryz.prog 180 #[.slice a l.length cap, .pointer (some ⟨pb, 0, none⟩), .int .i64 (yN : Int), .int .i64 (xN : Int)] w3 fun e w' => e = .returned (.bool false) ∧ PebC W.heap.size w' pb (.slice (some ⟨gF, 0, none⟩) n cF) vT vP (F, T, P) ∧ Kept (PK (.slice (some ⟨gF, 0, none⟩) n cF) vT) w3 w' from by have := HM2.out w3 hb3 F T P HI.out P3.out; rw [hf2] at this; exact this)
          have HN := Lib.hid (show gatherP l (xN : Int) (yN : Int) want 7 S = ((F, T, P), false) by rw [HG.out]; exact gatherP_no HLT.out HF0.out hf2)
          clear hf2
          refine HC.out.mono ?_
          rintro e w4 ⟨rfl, p4, b4⟩
          have P4 := Lib.hid p4
          have K4 := K3.trans b4
          clear p4 HC
          go_wp2_with fail
          go_ret
          rw [HN.out]
          exact ⟨rfl, P4.out, K4⟩
    · have hd : decide (fx + fy < want) = false := decide_eq_false hlt
      have HE := Lib.hid (show gatherP l (xN : Int) (yN : Int) want 7 S = ((F, T, P), true) by
        rw [HG.out]
        exact gatherP_stop (by show ¬ gI F (xN : Int).toNat + gI F (yN : Int).toNat < want; rw [Int.toNat_natCast, Int.toNat_natCast, ← HFX.out, ← HFY.out]; exact hlt) _)
      go_wp2_with fail
      go_quiet (fail)
      have bd : Below wr.heap.size wr (wr.drewN nq) := drN_below (Below.refl _ _) nq
      have hbw2 := drN_below hbw nq
      have hkw2 := hkw.trans (Kept.of_below bd)
      have HP2 := Lib.hid (HP.out.below bd)
      clear t0 t1 hc0 hsF hsb bd HP hbw hkw
      generalize wr.drewN nq = w2 at *
      go_wp2_with fail
      go_ret
      rw [HE.out]
      exact ⟨rfl, HP2.out, hkw2⟩

theorem PebC.own {base pb : Nat} {w : World} {vF vT vP : Value} {S : PebT} (h : PebC base w pb vF vT vP S) : Peb3 base w vF vT vP S := ⟨h.oF, h.oT, h.oP, h.dFT, h.dFP, h.dTP⟩
theorem PebC.appT {base pb : Nat} {w w' : World} {vF vT vP v' : Value} {S : PebT} {y : Int} (h : PebC base w pb vF vT vP S) (hb : base ≤ w.heap.size) (ho : OwnInts w' base v' (S.2.1 ++ [y])) (hk : Kept (fun k => some k = vT.ownBlock) w w') (ha : v'.ownBlock = vT.ownBlock ∨ ∀ b, v'.ownBlock = some b → w.heap.size ≤ b) :
    PebC base (w'.setCell ⟨pb, 1, none⟩ v') pb vF v' vP (S.1, S.2.1 ++ [y], S.2.2) := by
  have n0 : ¬ some pb = vT.ownBlock := fun e => h.dT e.symm
  have nF : ∀ k, vF.ownBlock = some k → ¬ some k = vT.ownBlock := fun k hk e => h.dFT k hk e.symm
  have nP : ∀ k, vP.ownBlock = some k → ¬ some k = vT.ownBlock := fun k hk e => h.dTP k e.symm hk
  have q1 := (hk.cell h.hi n0).trans h.c1
  have ks : Kept (fun k => k = pb) w' (w'.setCell ⟨pb, 1, none⟩ v') := setKept
  have hF' : ∀ k, vF.ownBlock = some k → v'.ownBlock ≠ some k := fun k hk1 e => by
    rcases ha with ha | ha
    · exact h.dFT k hk1 (ha.symm.trans e)
    · have := ha k e; have := (h.oF.lt k hk1).2; omega
  have hP' : ∀ k, v'.ownBlock = some k → vP.ownBlock ≠ some k := fun k hk1 e => by
    rcases ha with ha | ha
    · exact h.dTP k (ha.symm.trans hk1) e
    · have := ha k hk1; have := (h.oP.lt k e).2; omega
  have hp' : v'.ownBlock ≠ some pb := fun e => by
    rcases ha with ha | ha
    · exact h.dT (ha.symm.trans e)
    · have := ha pb e; have := h.hi; omega
  exact ⟨(World.cell?_setCell_other _ _ _ _ (by simp)).trans ((hk.cell h.hi n0).trans h.c0), cellSame q1, (World.cell?_setCell_other _ _ _ _ (by simp)).trans ((hk.cell h.hi n0).trans h.c2),
    (World.frozen?_setCell _ _ _ _).trans ((hk.frozen h.hi n0).trans h.f0), (World.frozen?_setCell _ _ _ _).trans ((hk.frozen h.hi n0).trans h.f1), (World.frozen?_setCell _ _ _ _).trans ((hk.frozen h.hi n0).trans h.f2),
    ks.ownsRow (hk.ownsRow h.oF nF) fun k hk1 e => h.dF (by rw [hk1, e]), ks.ownsRow ho fun k hk1 e => hp' (by rw [hk1, e]), ks.ownsRow (hk.ownsRow h.oP nP) fun k hk1 e => h.dP (by rw [hk1, e]),
    hF', h.dFP, hP', h.dF, hp', h.dP, h.lo, Nat.lt_of_lt_of_le (Nat.lt_of_lt_of_le h.hi hk.size) ks.size⟩
theorem PebC.appP {base pb : Nat} {w w' : World} {vF vT vP v' : Value} {S : PebT} {y : Int} (h : PebC base w pb vF vT vP S) (hb : base ≤ w.heap.size) (ho : OwnInts w' base v' (S.2.2 ++ [y])) (hk : Kept (fun k => some k = vP.ownBlock) w w') (ha : v'.ownBlock = vP.ownBlock ∨ ∀ b, v'.ownBlock = some b → w.heap.size ≤ b) :
    PebC base (w'.setCell ⟨pb, 2, none⟩ v') pb vF vT v' (S.1, S.2.1, S.2.2 ++ [y]) := by
  have n0 : ¬ some pb = vP.ownBlock := fun e => h.dP e.symm
  have nF : ∀ k, vF.ownBlock = some k → ¬ some k = vP.ownBlock := fun k hk e => h.dFP k hk e.symm
  have nT : ∀ k, vT.ownBlock = some k → ¬ some k = vP.ownBlock := fun k hk e => h.dTP k hk e.symm
  have q1 := (hk.cell h.hi n0).trans h.c2
  have ks : Kept (fun k => k = pb) w' (w'.setCell ⟨pb, 2, none⟩ v') := setKept
  have hF' : ∀ k, vF.ownBlock = some k → v'.ownBlock ≠ some k := fun k hk1 e => by
    rcases ha with ha | ha
    · exact h.dFP k hk1 (ha.symm.trans e)
    · have := ha k e; have := (h.oF.lt k hk1).2; omega
  have hT' : ∀ k, vT.ownBlock = some k → v'.ownBlock ≠ some k := fun k hk1 e => by
    rcases ha with ha | ha
    · exact h.dTP k hk1 (ha.symm.trans e)
    · have := ha k e; have := (h.oT.lt k hk1).2; omega
  have hp' : v'.ownBlock ≠ some pb := fun e => by
    rcases ha with ha | ha
    · exact h.dP (ha.symm.trans e)
    · have := ha pb e; have := h.hi; omega
  exact ⟨(World.cell?_setCell_other _ _ _ _ (by simp)).trans ((hk.cell h.hi n0).trans h.c0), (World.cell?_setCell_other _ _ _ _ (by simp)).trans ((hk.cell h.hi n0).trans h.c1), cellSame q1,
    (World.frozen?_setCell _ _ _ _).trans ((hk.frozen h.hi n0).trans h.f0), (World.frozen?_setCell _ _ _ _).trans ((hk.frozen h.hi n0).trans h.f1), (World.frozen?_setCell _ _ _ _).trans ((hk.frozen h.hi n0).trans h.f2),
    ks.ownsRow (hk.ownsRow h.oF nF) fun k hk1 e => h.dF (by rw [hk1, e]), ks.ownsRow (hk.ownsRow h.oT nT) fun k hk1 e => h.dT (by rw [hk1, e]), ks.ownsRow ho fun k hk1 e => hp' (by rw [hk1, e]),
    h.dFT, hF', hT', h.dF, h.dT, hp', h.lo, Nat.lt_of_lt_of_le (Nat.lt_of_lt_of_le h.hi hk.size) ks.size⟩
def PlacedAt (base : Nat) (w : World) (pb : Nat) (o : Option PebT) : Prop := ∀ S', o = some S' → PebAt base w pb S'

set_option maxHeartbeats 8000000 in
theorem place_at (W w : World) (hW : Below W.heap.size W w) (n : Nat) (k : Int) (hn : n ≤ 8) (hk : k ≤ 64) (a : Option Addr) (cap : Nat) (l : List BarT) (h : BarsAt W a l.length l) (hl : l.length ≤ 1048576) (hb : Bok n l) (e : Nat) (he : e < l.length) (l0 : Int) (hl0 : 0 ≤ l0 ∧ l0 ≤ 5) (S : PebT) (hI : Inv n k l e S) (pb : Nat) (vF vT vP : Value) (hP : PebC W.heap.size w pb vF vT vP S) :
    Calls Tryz.prog 173 #[.slice a l.length cap, .int .i64 l0, .pointer (some ⟨pb, 0, none⟩), .int .i64 e] w fun r w' => r = .returned (.bool (placeP l l0 S e).isSome) ∧ PlacedAt W.heap.size w' pb (placeP l l0 S e) ∧ Below W.heap.size W w' := by
  obtain ⟨bb, off, ⟨b1, b2⟩, rfl, hbl, hxb, d0, d1⟩ := (h.below hW).2 e he
  dsimp only at d0 d1
  have hgb : gB l e = (b1, b2) := by unfold gB; rw [hxb]; rfl
  have hbe := hb e he
  rw [hgb] at hbe
  dsimp only at hbe
  obtain ⟨gF, cF, rfl, -, -⟩ := ownForm hP.oF (by rw [hI.len]; omega)
  rw [hI.len] at hP
  have hlo : ∀ q, (Value.slice (some ⟨gF, 0, none⟩) n cF).ownBlock = some q ∨ vT.ownBlock = some q → q < w.heap.size := fun q hq => by
    rcases hq with hq | hq
    · exact (hP.oF.lt q hq).2
    · exact (hP.oT.lt q hq).2
  have H1 := Lib.hid h
  have HB := Lib.hid hb
  have HI := Lib.hid hI
  have HGB := Lib.hid hgb
  have HLO := Lib.hid hlo
  have bal : Below w.heap.size w (w.alloc (.cells #[.int .i64 b1, .int .i64 b2] 70)) := belAl _ _
  have hW1 := hW.step bal
  have HP1 := Lib.hid (hP.below bal)
  have p0 : (w.alloc (.cells #[.int .i64 b1, .int .i64 b2] 70)).cell? ⟨w.heap.size, 0, none⟩ = some (.int .i64 b1) := by simp [World.cell?_alloc_new]
  have p1 : (w.alloc (.cells #[.int .i64 b1, .int .i64 b2] 70)).cell? ⟨w.heap.size, 1, none⟩ = some (.int .i64 b2) := by simp [World.cell?_alloc_new]
  have pz : w.heap.size < (w.alloc (.cells #[.int .i64 b1, .int .i64 b2] 70)).heap.size := by simp
  have s3 : (e : Int) < (l.length : Int) := by omega
  have s6 : (0 : Int) ≤ (e : Int) := by omega
  have hWs := hW.size
  obtain ⟨xN, rfl⟩ := Int.eq_ofNat_of_zero_le hbe.1
  obtain ⟨yN, rfl⟩ := Int.eq_ofNat_of_zero_le (show 0 ≤ b2 by omega)
  have hg := gather_at W _ hW1 n e k hn hk (some ⟨bb, off, none⟩) cap l h hl hb (Nat.le_of_lt he) S hI (xN : Int) (yN : Int) ⟨hbe.1, by omega⟩ ⟨by omega, hbe.2.2⟩ (by omega) (l0 + 1) (by omega) pb _ _ _ HP1.out
  have HGA := Lib.hid hg
  have hok := gatherP_ok (want := l0 + 1) hb (Nat.le_of_lt he) hn (a := (xN : Int)) (b := (yN : Int)) ⟨hbe.1, by omega⟩ ⟨by omega, hbe.2.2⟩ (by omega) 7 S hI
  have HOK := Lib.hid hok
  have hw7 : l0 + 1 ≤ gI S.1 (xN : Int).toNat + gI S.1 (yN : Int).toNat + (7 : Nat) := by
    have f0 := hI.fr xN (by omega)
    have f1 := hI.fr yN (by omega)
    rw [Int.toNat_natCast, Int.toNat_natCast]
    push_cast
    omega
  have HW7 := Lib.hid hw7
  clear hP hI hgb h hb hlo hg hok hxb hw7
  go_enter Tryz.func173, Tryz.ntmps173
  go_upto_region 2 with (fail)
  clear d0 d1 hbl
  generalize (w.alloc (.cells #[.int .i64 (xN : Int), .int .i64 (yN : Int)] 70)) = w1 at *
  go_wp2_with fail
  cases hG : gatherP l (xN : Int) (yN : Int) (l0 + 1) 7 S with
  | mk S' ok =>
  cases ok
  · have HC := Lib.hid (show Calls Tryz.prog 178 #[.slice (some ⟨bb, off, none⟩) l.length cap, .pointer (some ⟨pb, 0, none⟩), .int .i64 (xN : Int), .int .i64 (yN : Int), .int .i64 (l0 + 1)] w1 fun e w' => e = .returned (.bool false) ∧ PebC W.heap.size w' pb (.slice (some ⟨gF, 0, none⟩) n cF) vT vP S' ∧ Kept (PK (.slice (some ⟨gF, 0, none⟩) n cF) vT) w1 w' from by have := HGA.out; rw [hG] at this; exact this)
    have HN := Lib.hid (show placeP l l0 S e = none by unfold placeP; rw [HGB.out]; dsimp only; rw [hG])
    clear hG HGA
    refine HC.out.mono ?_
    rintro r w2 ⟨rfl, p2, k2⟩
    have hW2 := HP1.out.keptBelow hW1 k2
    clear HC p2 k2
    go_wp2_with fail
    go_ret
    rw [HN.out]
    refine ⟨rfl, ?_, hW2⟩
    intro S' hn
    cases hn
  · have HC := Lib.hid (show Calls Tryz.prog 178 #[.slice (some ⟨bb, off, none⟩) l.length cap, .pointer (some ⟨pb, 0, none⟩), .int .i64 (xN : Int), .int .i64 (yN : Int), .int .i64 (l0 + 1)] w1 fun e w' => e = .returned (.bool true) ∧ PebC W.heap.size w' pb (.slice (some ⟨gF, 0, none⟩) n cF) vT vP S' ∧ Kept (PK (.slice (some ⟨gF, 0, none⟩) n cF) vT) w1 w' from by have := HGA.out; rw [hG] at this; exact this)
    obtain ⟨i1, i2, i3⟩ := HOK.out
    rw [hG] at i1 i2 i3
    have i4 := i3 rfl HW7.out
    dsimp only at i1 i2 i4
    rw [Int.toNat_natCast, Int.toNat_natCast] at i4
    have f0 := i1.fr xN (by omega)
    have f1 := i1.fr yN (by omega)
    have HN := Lib.hid (show placeP l l0 S e = some (layP S' (if gI S'.1 xN = 0 then (yN : Int) else (xN : Int)) e) by
      unfold placeP; rw [HGB.out]; dsimp only; rw [hG]; rfl)
    have HI1 := Lib.hid i1
    have hfx : 0 ≤ gI S'.1 xN ∧ gI S'.1 xN ≤ 64 := by omega
    have hfy : 0 ≤ gI S'.1 yN ∧ gI S'.1 yN ≤ 64 := by omega
    have hm1 := i1.plen
    have hm2 : S'.2.1.length ≤ l.length := by have := i1.tl; have := i1.plen; omega
    have HFL := Lib.hid i1.len
    have hsum : gI S'.1 xN = 0 → 1 ≤ gI S'.1 yN := fun h0 => by omega
    have HSUM := Lib.hid hsum
    clear hG HGA HOK i1 i2 i3 i4 f0 f1 hsum
    refine HC.out.mono ?_
    rintro r w2 ⟨rfl, p2, k2⟩
    have hW2 := HP1.out.keptBelow hW1 k2
    have nb : ¬ PK (.slice (some ⟨gF, 0, none⟩) n cF) vT w.heap.size := fun hq => by have := HLO.out _ hq; omega
    replace p0 := (k2.cell pz nb).trans p0
    replace p1 := (k2.cell pz nb).trans p1
    replace pz := Nat.lt_of_lt_of_le pz k2.size
    have c0 := p2.c0
    have hsb := p2.hi
    have t0 := p2.oF.gcell (k := xN) (by have := HFL.out; omega)
    have hsF : gF < w2.heap.size := (p2.oF.lt _ rfl).2
    have HP2 := Lib.hid p2
    obtain ⟨fx, hfx1⟩ : ∃ fx, fx = gI S'.1 xN := ⟨_, rfl⟩
    rw [← hfx1] at t0 hfx
    have HFX := Lib.hid hfx1
    have e1 : (xN : Int) < (n : Int) := by omega
    have e2 : (yN : Int) < (n : Int) := by omega
    clear HC k2 nb p2 hfx1 HP1 hW1
    by_cases h0 : fx = 0
    · have hz : (fx == 0) = true := by rw [h0]; rfl
      have HN2 := Lib.hid (show placeP l l0 S e = some (layP S' (yN : Int) e) by rw [HN.out, if_pos (by rw [← HFX.out]; exact h0)])
      obtain ⟨fy, hfy1⟩ : ∃ fy, fy = gI S'.1 yN := ⟨_, rfl⟩
      have hfy2 : 1 ≤ fy := by rw [hfy1]; exact HSUM.out (by rw [← HFX.out]; exact h0)
      rw [← hfy1] at hfy
      have HFY := Lib.hid hfy1
      clear hfy1
      clear h0
      go_wp2_with fail
      go_quiet (fail)
      have bd : Below w2.heap.size w2 (w2.drewN nq) := drN_below (Below.refl _ _) nq
      have hW3 := drN_below hW2 nq
      have HP3 := Lib.hid (HP2.out.below bd)
      obtain ⟨qc, qf⟩ := bcell bd
      replace p0 := (qc _ _ pz).trans p0
      replace p1 := (qc _ _ pz).trans p1
      replace pz := Nat.lt_of_lt_of_le pz bd.size
      clear t0 c0 hsF hsb bd HP2 hW2 qc qf
      generalize w2.drewN nq = w3 at *
      have c0 := HP3.out.c0
      have hsb := HP3.out.hi
      have t0 := HP3.out.oF.gcell (k := yN) (by have := HFL.out; omega)
      have tz := HP3.out.oF.gfroz yN
      have hsF : gF < w3.heap.size := (HP3.out.oF.lt _ rfl).2
      rw [← HFY.out] at t0
      go_upto_region 8 with (fail)
      have HP4 := Lib.hid (HP3.out.setF yN (fy - 1))
      have hW4 := hW3.setCell (p := ⟨gF, yN, none⟩) (HP3.out.oF.lt gF rfl).1 (.int .i64 (fy - 1))
      clear t0 tz c0 hsF hsb HP3 hW3 p0 p1 pz
      generalize w3.setCell ⟨gF, yN, none⟩ (.int .i64 (fy - 1)) = w4 at *
      have c1 := HP4.out.c1
      have f1 := HP4.out.f1
      have hsb := HP4.out.hi
      have hWz := hW4.size
      have lt1 : S'.2.1.length < 1099511627776 := by omega
      go_upto_region 9 with (at_builtin; refine app1At rfl (.tmp 51) (.tmp 53) rfl rfl HP4.out.oT (yN : Int) rfl lt1 hWz ?_; intro v5 w5 h5 k5 a5; obtain ⟨av, cv, rfl, hiv⟩ := h5.form; clear hiv; rw [show (S'.2.1 ++ [(yN : Int)]).length = S'.2.1.length + 1 from by simp] at h5 a5 ⊢; have PT := HP4.out.appT hWz h5 k5 a5; have hW5 := (hW4.trans (k5.setOwn HP4.out.oT (Nat.le_refl _) hWz)).setCell (p := ⟨pb, 1, none⟩) HP4.out.lo (.slice av (S'.2.1.length + 1) cv); have q1 := (k5.cell HP4.out.hi (o := 1) (fun e => HP4.out.dT e.symm)).trans c1; have q2 := (k5.frozen HP4.out.hi (o := 1) (fun e => HP4.out.dT e.symm)).trans f1; have q3 := Nat.lt_of_lt_of_le hsb k5.size; clear c1 f1 hsb)
      dsimp only at PT
      have HP5 := Lib.hid PT
      clear PT h5 k5 a5 q1 q2 q3 HP4 hW4
      generalize w5.setCell ⟨pb, 1, none⟩ (.slice av (S'.2.1.length + 1) cv) = w6 at *
      have c1 := HP5.out.c2
      have f1 := HP5.out.f2
      have hsb := HP5.out.hi
      have hWz5 := hW5.size
      have lt2 : S'.2.2.length < 1099511627776 := by omega
      go_upto_region 10 with (at_builtin; refine app1At rfl (.tmp 61) (.tmp 63) rfl rfl HP5.out.oP (e : Int) rfl lt2 hWz5 ?_; intro v7 w7 h7 k7 a7; obtain ⟨av7, cv7, rfl, hiv⟩ := h7.form; clear hiv; rw [show (S'.2.2 ++ [(e : Int)]).length = S'.2.2.length + 1 from by simp] at h7 a7 ⊢; have PT := HP5.out.appP hWz5 h7 k7 a7; have hW7 := (hW5.trans (k7.setOwn HP5.out.oP (Nat.le_refl _) hWz5)).setCell (p := ⟨pb, 2, none⟩) HP5.out.lo (.slice av7 (S'.2.2.length + 1) cv7); have q1 := (k7.cell HP5.out.hi (o := 2) (fun e => HP5.out.dP e.symm)).trans c1; have q2 := (k7.frozen HP5.out.hi (o := 2) (fun e => HP5.out.dP e.symm)).trans f1; have q3 := Nat.lt_of_lt_of_le hsb k7.size; clear c1 f1 hsb)
      have HP7 := Lib.hid PT
      clear PT h7 k7 a7 q1 q2 q3 HP5 hW5
      go_wp2_with fail
      go_ret
      rw [HN2.out]
      refine ⟨rfl, fun S2 hS2 => ?_, hW7⟩
      have hS3 := Option.some.inj hS2
      rw [← hS3]
      have h9 := HP7.out
      rw [show layP S' (yN : Int) e = (S'.1.set yN (fy - 1), S'.2.1 ++ [(yN : Int)], S'.2.2 ++ [(e : Int)]) from by unfold layP; rw [Int.toNat_natCast, ← HFY.out]]
      exact ⟨_, _, _, h9⟩
    · have hz : (fx == 0) = false := by rw [beq_eq_false_iff_ne]; exact h0
      have HN2 := Lib.hid (show placeP l l0 S e = some (layP S' (xN : Int) e) by rw [HN.out, if_neg (by rw [← HFX.out]; exact h0)])
      have h01 : 1 ≤ fx := by omega
      clear h0
      go_wp2_with fail
      go_quiet (fail)
      have bd : Below w2.heap.size w2 (w2.drewN nq) := drN_below (Below.refl _ _) nq
      have hW3 := drN_below hW2 nq
      have HP3 := Lib.hid (HP2.out.below bd)
      obtain ⟨qc, qf⟩ := bcell bd
      replace p0 := (qc _ _ pz).trans p0
      replace p1 := (qc _ _ pz).trans p1
      replace pz := Nat.lt_of_lt_of_le pz bd.size
      clear t0 c0 hsF hsb bd HP2 hW2 qc qf
      generalize w2.drewN nq = w3 at *
      have c0 := HP3.out.c0
      have hsb := HP3.out.hi
      have t0 := HP3.out.oF.gcell (k := xN) (by have := HFL.out; omega)
      have tz := HP3.out.oF.gfroz xN
      have hsF : gF < w3.heap.size := (HP3.out.oF.lt _ rfl).2
      rw [← HFX.out] at t0
      go_upto_region 8 with (fail)
      have HP4 := Lib.hid (HP3.out.setF xN (fx - 1))
      have hW4 := hW3.setCell (p := ⟨gF, xN, none⟩) (HP3.out.oF.lt gF rfl).1 (.int .i64 (fx - 1))
      clear t0 tz c0 hsF hsb HP3 hW3 p0 p1 pz
      generalize w3.setCell ⟨gF, xN, none⟩ (.int .i64 (fx - 1)) = w4 at *
      have c1 := HP4.out.c1
      have f1 := HP4.out.f1
      have hsb := HP4.out.hi
      have hWz := hW4.size
      have lt1 : S'.2.1.length < 1099511627776 := by omega
      go_upto_region 9 with (at_builtin; refine app1At rfl (.tmp 51) (.tmp 53) rfl rfl HP4.out.oT (xN : Int) rfl lt1 hWz ?_; intro v5 w5 h5 k5 a5; obtain ⟨av, cv, rfl, hiv⟩ := h5.form; clear hiv; rw [show (S'.2.1 ++ [(xN : Int)]).length = S'.2.1.length + 1 from by simp] at h5 a5 ⊢; have PT := HP4.out.appT hWz h5 k5 a5; have hW5 := (hW4.trans (k5.setOwn HP4.out.oT (Nat.le_refl _) hWz)).setCell (p := ⟨pb, 1, none⟩) HP4.out.lo (.slice av (S'.2.1.length + 1) cv); have q1 := (k5.cell HP4.out.hi (o := 1) (fun e => HP4.out.dT e.symm)).trans c1; have q2 := (k5.frozen HP4.out.hi (o := 1) (fun e => HP4.out.dT e.symm)).trans f1; have q3 := Nat.lt_of_lt_of_le hsb k5.size; clear c1 f1 hsb)
      dsimp only at PT
      have HP5 := Lib.hid PT
      clear PT h5 k5 a5 q1 q2 q3 HP4 hW4
      generalize w5.setCell ⟨pb, 1, none⟩ (.slice av (S'.2.1.length + 1) cv) = w6 at *
      have c1 := HP5.out.c2
      have f1 := HP5.out.f2
      have hsb := HP5.out.hi
      have hWz5 := hW5.size
      have lt2 : S'.2.2.length < 1099511627776 := by omega
      go_upto_region 10 with (at_builtin; refine app1At rfl (.tmp 61) (.tmp 63) rfl rfl HP5.out.oP (e : Int) rfl lt2 hWz5 ?_; intro v7 w7 h7 k7 a7; obtain ⟨av7, cv7, rfl, hiv⟩ := h7.form; clear hiv; rw [show (S'.2.2 ++ [(e : Int)]).length = S'.2.2.length + 1 from by simp] at h7 a7 ⊢; have PT := HP5.out.appP hWz5 h7 k7 a7; have hW7 := (hW5.trans (k7.setOwn HP5.out.oP (Nat.le_refl _) hWz5)).setCell (p := ⟨pb, 2, none⟩) HP5.out.lo (.slice av7 (S'.2.2.length + 1) cv7); have q1 := (k7.cell HP5.out.hi (o := 2) (fun e => HP5.out.dP e.symm)).trans c1; have q2 := (k7.frozen HP5.out.hi (o := 2) (fun e => HP5.out.dP e.symm)).trans f1; have q3 := Nat.lt_of_lt_of_le hsb k7.size; clear c1 f1 hsb)
      have HP7 := Lib.hid PT
      clear PT h7 k7 a7 q1 q2 q3 HP5 hW5
      go_wp2_with fail
      go_ret
      rw [HN2.out]
      refine ⟨rfl, fun S2 hS2 => ?_, hW7⟩
      have hS3 := Option.some.inj hS2
      rw [← hS3]
      have h9 := HP7.out
      rw [show layP S' (xN : Int) e = (S'.1.set xN (fx - 1), S'.2.1 ++ [(xN : Int)], S'.2.2 ++ [(e : Int)]) from by unfold layP; rw [Int.toNat_natCast, ← HFX.out]]
      exact ⟨_, _, _, h9⟩

theorem PebC.appF {base pb : Nat} {w w' : World} {vF vT vP v' : Value} {S : PebT} {y : Int} (h : PebC base w pb vF vT vP S) (hb : base ≤ w.heap.size) (ho : OwnInts w' base v' (S.1 ++ [y])) (hk : Kept (fun k => some k = vF.ownBlock) w w') (ha : v'.ownBlock = vF.ownBlock ∨ ∀ b, v'.ownBlock = some b → w.heap.size ≤ b) :
    PebC base (w'.setCell ⟨pb, 0, none⟩ v') pb v' vT vP (S.1 ++ [y], S.2) := by
  have n0 : ¬ some pb = vF.ownBlock := fun e => h.dF e.symm
  have nT : ∀ k, vT.ownBlock = some k → ¬ some k = vF.ownBlock := fun k hk e => h.dFT k e.symm hk
  have nP : ∀ k, vP.ownBlock = some k → ¬ some k = vF.ownBlock := fun k hk e => h.dFP k e.symm hk
  have q1 := (hk.cell h.hi n0).trans h.c0
  have ks : Kept (fun k => k = pb) w' (w'.setCell ⟨pb, 0, none⟩ v') := setKept
  have hT' : ∀ k, v'.ownBlock = some k → vT.ownBlock ≠ some k := fun k hk1 e => by
    rcases ha with ha | ha
    · exact h.dFT k (ha.symm.trans hk1) e
    · have := ha k hk1; have := (h.oT.lt k e).2; omega
  have hP' : ∀ k, v'.ownBlock = some k → vP.ownBlock ≠ some k := fun k hk1 e => by
    rcases ha with ha | ha
    · exact h.dFP k (ha.symm.trans hk1) e
    · have := ha k hk1; have := (h.oP.lt k e).2; omega
  have hp' : v'.ownBlock ≠ some pb := fun e => by
    rcases ha with ha | ha
    · exact h.dF (ha.symm.trans e)
    · have := ha pb e; have := h.hi; omega
  exact ⟨cellSame q1, (World.cell?_setCell_other _ _ _ _ (by simp)).trans ((hk.cell h.hi n0).trans h.c1), (World.cell?_setCell_other _ _ _ _ (by simp)).trans ((hk.cell h.hi n0).trans h.c2),
    (World.frozen?_setCell _ _ _ _).trans ((hk.frozen h.hi n0).trans h.f0), (World.frozen?_setCell _ _ _ _).trans ((hk.frozen h.hi n0).trans h.f1), (World.frozen?_setCell _ _ _ _).trans ((hk.frozen h.hi n0).trans h.f2),
    ks.ownsRow ho fun k hk1 e => hp' (by rw [hk1, e]), ks.ownsRow (hk.ownsRow h.oT nT) fun k hk1 e => h.dT (by rw [hk1, e]), ks.ownsRow (hk.ownsRow h.oP nP) fun k hk1 e => h.dP (by rw [hk1, e]),
    hT', hP', h.dTP, hp', h.dT, h.dP, h.lo, Nat.lt_of_lt_of_le (Nat.lt_of_lt_of_le h.hi hk.size) ks.size⟩
theorem PebC.lay {base lo pb : Nat} {w : World} {vF vT vP : Value} {S : PebT} (h : Peb3 lo w vF vT vP S) (hz : ZerP w pb) (h1 : base ≤ pb) (h2 : pb < lo) : PebC base (((w.setCell ⟨pb, 0, none⟩ vF).setCell ⟨pb, 1, none⟩ vT).setCell ⟨pb, 2, none⟩ vP) pb vF vT vP S := by
  obtain ⟨⟨a, b, c, c0, c1, c2⟩, ⟨f0, f1, f2⟩, hzz⟩ := hz
  have h3 := (((h.set (p := ⟨pb, 0, none⟩) h2 vF).set (p := ⟨pb, 1, none⟩) h2 vT).set (p := ⟨pb, 2, none⟩) h2 vP)
  have hl := h3.low (Nat.le_of_lt (Nat.lt_of_le_of_lt h1 h2))
  refine ⟨?_, ?_, ?_, ?_, ?_, ?_, hl.oF, hl.oT, hl.oP, h.dFT, h.dFP, h.dTP, fun e => ?_, fun e => ?_, fun e => ?_, h1, by simpa using hzz⟩
  · rw [World.cell?_setCell_other _ _ _ _ (by simp), World.cell?_setCell_other _ _ _ _ (by simp)]; exact cellSame c0
  · rw [World.cell?_setCell_other _ _ _ _ (by simp)]; exact cellSame (by rw [World.cell?_setCell_other _ _ _ _ (by simp)]; exact c1)
  · exact cellSame (by rw [World.cell?_setCell_other _ _ _ _ (by simp), World.cell?_setCell_other _ _ _ _ (by simp)]; exact c2)
  · rw [World.frozen?_setCell, World.frozen?_setCell, World.frozen?_setCell]; exact f0
  · rw [World.frozen?_setCell, World.frozen?_setCell, World.frozen?_setCell]; exact f1
  · rw [World.frozen?_setCell, World.frozen?_setCell, World.frozen?_setCell]; exact f2
  · have := (h.oF.lt pb e).1; omega
  · have := (h.oT.lt pb e).1; omega
  · have := (h.oP.lt pb e).1; omega
theorem PebC.new {base lo : Nat} {w : World} {vF vT vP : Value} {S : PebT} (h : Peb3 lo w vF vT vP S) (h1 : base ≤ lo) (h2 : base ≤ w.heap.size) : PebC base (w.alloc (.cells #[vF, vT, vP] 117)) w.heap.size vF vT vP S := by
  have hb := belAl w (.cells #[vF, vT, vP] 117)
  have h3 := (h.below hb).low h1
  exact ⟨by simp [World.cell?_alloc_new], by simp [World.cell?_alloc_new], by simp [World.cell?_alloc_new], by simp [World.frozen?_alloc_new], by simp [World.frozen?_alloc_new], by simp [World.frozen?_alloc_new], h3.oF, h3.oT, h3.oP, h.dFT, h.dFP, h.dTP,
    fun e => by have := (h.oF.lt _ e).2; omega, fun e => by have := (h.oT.lt _ e).2; omega, fun e => by have := (h.oP.lt _ e).2; omega, h2, by simp⟩
theorem ZerP.of {base pb : Nat} {w : World} {vF vT vP : Value} {S : PebT} (h : PebC base w pb vF vT vP S) : ZerP w pb := ⟨⟨_, _, _, h.c0, h.c1, h.c2⟩, ⟨h.f0, h.f1, h.f2⟩, h.hi⟩
theorem Peb3.nil (w : World) (base : Nat) : Peb3 base w (.slice none 0 0) (.slice none 0 0) (.slice none 0 0) ([], [], []) :=
  ⟨OwnInts.nil _ _, OwnInts.nil _ _, OwnInts.nil _ _, fun k h => by simp [Value.ownBlock] at h, fun k h => by simp [Value.ownBlock] at h, fun k h => by simp [Value.ownBlock] at h⟩
theorem playTo_succ {bars : List BarT} {l : Int} {S0 : PebT} {e : Nat} : playTo bars l S0 (e + 1) = (placeP bars l (playTo bars l S0 e) e).getD (playTo bars l S0 e) := rfl

set_option maxHeartbeats 8000000 in
theorem play_at (W : World) (n : Nat) (k : Int) (hn : n ≤ 8) (hk0 : 0 ≤ k) (hk : k ≤ 64) (a : Option Addr) (cap : Nat) (l : List BarT) (h : BarsAt W a l.length l) (hl : l.length ≤ 1048576) (hb : Bok n l) (l0 : Int) (hl0 : 0 ≤ l0 ∧ l0 ≤ 5) :
    Calls Tryz.prog 160 #[.int .i64 n, .slice a l.length cap, .int .i64 k, .int .i64 l0] W (RetPeb W (playP n l k l0)) := by
  have H1 := Lib.hid h
  have HB := Lib.hid hb
  have hu : ((W.alloc (.cells #[.slice none 0 0, .slice none 0 0, .slice none 0 0] 117)).alloc (.cells #[.slice none 0 0, .slice none 0 0, .slice none 0 0] 117)).heap.size = W.heap.size + 2 := by simp
  have b0 : Below W.heap.size W ((W.alloc (.cells #[.slice none 0 0, .slice none 0 0, .slice none 0 0] 117)).alloc (.cells #[.slice none 0 0, .slice none 0 0, .slice none 0 0] 117)) := ((Below.refl _ W).alloc (Nat.le_refl _) _).alloc (by simp) _
  have HZ : Hid (ZerP ((W.alloc (.cells #[.slice none 0 0, .slice none 0 0, .slice none 0 0] 117)).alloc (.cells #[.slice none 0 0, .slice none 0 0, .slice none 0 0] 117)) W.heap.size) := Lib.hid ((ZerP.at W _).below (belAl _ _))
  have HP : Hid (PebC (W.heap.size + 1) ((W.alloc (.cells #[.slice none 0 0, .slice none 0 0, .slice none 0 0] 117)).alloc (.cells #[.slice none 0 0, .slice none 0 0, .slice none 0 0] 117)) (W.heap.size + 1) (.slice none 0 0) (.slice none 0 0) (.slice none 0 0) ([], [], [])) := Lib.hid (by
    have := PebC.new (base := W.heap.size + 1) (Peb3.nil (W.alloc (.cells #[.slice none 0 0, .slice none 0 0, .slice none 0 0] 117)) (W.heap.size + 1)) (Nat.le_refl _) (by simp)
    rwa [World.size_alloc] at this)
  clear h hb
  go_enter Tryz.func160, Tryz.ntmps160
  go_wp2_with fail
  generalize ((W.alloc (.cells #[.slice none 0 0, .slice none 0 0, .slice none 0 0] 117)).alloc (.cells #[.slice none 0 0, .slice none 0 0, .slice none 0 0] 117)) = u at *
  go_loopw [14] (fun i wr => ∃ j : Nat, j ≤ n ∧ i = .int .i64 j ∧ (∃ vF, PebC (W.heap.size + 1) wr (W.heap.size + 1) vF (.slice none 0 0) (.slice none 0 0) (List.replicate j k, [], [])) ∧ ZerP wr W.heap.size ∧ Below W.heap.size W wr) (fun i _ => n - (intOf i).toNat)
  case atStart => exact ⟨0, Nat.zero_le _, rfl, ⟨_, HP.out⟩, HZ.out, b0⟩
  case round =>
    clear HP HZ b0 hu
    obtain ⟨j, hj, rfl, ⟨vF, hP⟩, hZ, hbw⟩ := hrel
    have HP := Lib.hid hP
    have HZ := Lib.hid hZ
    have hWz : W.heap.size + 1 ≤ wr.heap.size := by have := hP.hi; omega
    clear hP hZ
    by_cases hlt : j < n
    · have c0 := HP.out.c0
      have f0 := HP.out.f0
      have hsb := HP.out.hi
      have lt1 : (List.replicate j k).length < 1099511627776 := by rw [List.length_replicate]; omega
      go_wp2_with (at_builtin; refine app1At rfl (.tmp 17) (.tmp 19) rfl rfl HP.out.oF k rfl lt1 hWz ?_; intro v5 w5 h5 k5 a5; obtain ⟨av, cv, rfl, hiv⟩ := h5.form; clear hiv; rw [show (List.replicate j k ++ [k]).length = j + 1 from by simp] at h5 a5 ⊢; have PT := HP.out.appF hWz h5 k5 a5; have hW5 := (hbw.trans ((k5.setOwn HP.out.oF (Nat.le_refl _) hWz).mono (by omega))).setCell (p := ⟨W.heap.size + 1, 0, none⟩) (by simp) (.slice av (j + 1) cv); have q1 := (k5.cell HP.out.hi (o := 0) (fun e => HP.out.dF e.symm)).trans c0; have q2 := (k5.frozen HP.out.hi (o := 0) (fun e => HP.out.dF e.symm)).trans f0; have q3 := Nat.lt_of_lt_of_le hsb k5.size; have HZ5 := Lib.hid ((HZ.out.kept k5 (fun e => by have := (HP.out.oF.lt _ e.symm).1; omega)).kept (setKept (b := W.heap.size + 1) (j := 0) (x := .slice av (j + 1) cv)) (by omega)); clear c0 f0 hsb)
      go_roundw
      case rel => exact ⟨j + 1, by omega, by go_num, ⟨_, by rw [List.replicate_succ']; exact PT⟩, HZ5.out, hW5⟩
      case measure => simp [intOf]; omega
    · obtain rfl : j = n := by omega
      go_wp2_with fail
      go_loopw [25] (fun i wr => ∃ e : Nat, e ≤ l.length ∧ i = .int .i64 e ∧ PebAt (W.heap.size + 1) wr (W.heap.size + 1) (playTo l l0 (List.replicate j k, [], []) e) ∧ ZerP wr W.heap.size ∧ Below W.heap.size W wr) (fun i _ => l.length - (intOf i).toNat)
      case atStart => exact ⟨0, Nat.zero_le _, rfl, ⟨_, _, _, HP.out⟩, HZ.out, hbw⟩
      case round =>
        clear HP HZ hbw hWz
        obtain ⟨e, he, rfl, ⟨vF, vT, vP, hP⟩, hZ, hbw⟩ := hrel
        have hI := playTo_ok hk0 HB.out hn hl0 e he
        have HS := Lib.hid (@playTo_succ l l0 (List.replicate j k, [], []) e)
        have HFI := Lib.hid (show playP j l k l0 = playTo l l0 (List.replicate j k, [], []) l.length from rfl)
        have HEQ : Hid (e = l.length → playTo l l0 (List.replicate j k, [], []) e = playP j l k l0) := Lib.hid fun h => by rw [HFI.out, h]
        generalize playTo l l0 (List.replicate j k, [], []) e = S at *
        have HI := Lib.hid hI
        have hP0 := hP
        obtain ⟨aF, cF, rfl, -⟩ := hP0.oF.form
        obtain ⟨aT, cT, rfl, -⟩ := hP0.oT.form
        obtain ⟨aP, cP, rfl, -⟩ := hP0.oP.form
        have HP := Lib.hid hP
        have HZ := Lib.hid hZ
        have hWz : W.heap.size + 2 ≤ wr.heap.size := by have := hP.hi; omega
        have hln : S.1.length ≤ 1048576 ∧ S.2.1.length ≤ 1048576 ∧ S.2.2.length ≤ 1048576 := by
          have h1 := hI.len
          have h2 := hI.tl
          have h3 := hI.plen
          omega
        have c0 := hP.c0
        have c1 := hP.c1
        have c2 := hP.c2
        have hsb := hP.hi
        clear hP hZ hP0 hI
        by_cases hlt : e < l.length
        · have HIS := Lib.hid (HP.out.own.is)
          have HCP := Lib.hid (implCpP_at wr _ _ _ S HP.out.own.is hln)
          go_wp2_with fail
          refine HCP.out.mono ?_
          rintro r w1 ⟨v, rfl, ⟨uF, uT, uP, rfl, P3⟩, b1⟩
          obtain ⟨aF', cF', rfl, -⟩ := P3.oF.form
          obtain ⟨aT', cT', rfl, -⟩ := P3.oT.form
          obtain ⟨aP', cP', rfl, -⟩ := P3.oP.form
          have hw1 := b1.size
          have HQ := Lib.hid (PebC.new P3 (Nat.le_refl _) hw1)
          have b2 : Below wr.heap.size wr (w1.alloc (.cells #[.slice aF' S.1.length cF', .slice aT' S.2.1.length cT', .slice aP' S.2.2.length cP'] 117)) := b1.step (belAl _ _)
          clear P3 HCP HIS c0 c1 c2 hsb b1
          go_upto_region 10 with (fail)
          generalize (w1.alloc (.cells #[.slice aF' S.1.length cF', .slice aT' S.2.1.length cT', .slice aP' S.2.2.length cP'] 117)) = w2 at *
          have HPL := Lib.hid (place_at wr w2 b2 j k hn hk a cap l (H1.out.below hbw) hl HB.out e hlt l0 hl0 S HI.out w1.heap.size _ _ _ HQ.out)
          clear HQ
          go_wp2_with fail
          cases hpl : placeP l l0 S e with
          | none =>
            have HC := Lib.hid (show Calls Tryz.prog 173 #[.slice a l.length cap, .int .i64 l0, .pointer (some ⟨w1.heap.size, 0, none⟩), .int .i64 e] w2 fun r w' => r = .returned (.bool false) ∧ True ∧ Below wr.heap.size wr w' from HPL.out.mono fun r w' hh => by rw [hpl] at hh; exact ⟨hh.1, trivial, hh.2.2⟩)
            have HN := Lib.hid (show playTo l l0 (List.replicate j k, [], []) (e + 1) = S by rw [HS.out, hpl]; rfl)
            clear hpl HPL
            refine HC.out.mono ?_
            rintro r w3 ⟨rfl, -, b3⟩
            clear HC
            go_wp2_with fail
            go_roundw
            case rel => exact ⟨e + 1, by omega, by go_num, by rw [HN.out]; exact ⟨_, _, _, HP.out.below b3⟩, HZ.out.below b3, hbw.step b3⟩
            case measure => simp [intOf]; omega
          | some S' =>
            have HC := Lib.hid (show Calls Tryz.prog 173 #[.slice a l.length cap, .int .i64 l0, .pointer (some ⟨w1.heap.size, 0, none⟩), .int .i64 e] w2 fun r w' => r = .returned (.bool true) ∧ PebAt wr.heap.size w' w1.heap.size S' ∧ Below wr.heap.size wr w' from HPL.out.mono fun r w' hh => by rw [hpl] at hh; exact ⟨hh.1, hh.2.1 S' rfl, hh.2.2⟩)
            have HN := Lib.hid (show playTo l l0 (List.replicate j k, [], []) (e + 1) = S' by rw [HS.out, hpl]; rfl)
            clear hpl HPL
            refine HC.out.mono ?_
            rintro r w3 ⟨rfl, ⟨xF, xT, xP, hq⟩, b3⟩
            clear HC
            have hq0 := hq
            obtain ⟨bF, dF, rfl, -⟩ := hq0.oF.form
            obtain ⟨bT, dT, rfl, -⟩ := hq0.oT.form
            obtain ⟨bP, dP, rfl, -⟩ := hq0.oP.form
            have HQ := Lib.hid hq
            have q0 := hq.c0
            have q1 := hq.c1
            have q2 := hq.c2
            have qz := hq.hi
            have hZp := (ZerP.of HP.out).below b3
            have HLY := Lib.hid (PebC.lay (base := W.heap.size + 1) hq.own hZp (Nat.le_refl _) (by omega))
            obtain ⟨⟨z0, z1, z2, y0, y1, y2⟩, ⟨g0, g1, g2⟩, gz⟩ := hZp
            have HZ3 := Lib.hid ((((HZ.out.below b3).kept (setKept (b := W.heap.size + 1) (j := 0) (x := .slice bF S'.1.length dF)) (by omega)).kept (setKept (b := W.heap.size + 1) (j := 1) (x := .slice bT S'.2.1.length dT)) (by omega)).kept (setKept (b := W.heap.size + 1) (j := 2) (x := .slice bP S'.2.2.length dP)) (by omega))
            have hb3 := ((((hbw.step b3).setCell (p := ⟨W.heap.size + 1, 0, none⟩) (by simp) (.slice bF S'.1.length dF)).setCell (p := ⟨W.heap.size + 1, 1, none⟩) (by simp) (.slice bT S'.2.1.length dT)).setCell (p := ⟨W.heap.size + 1, 2, none⟩) (by simp) (.slice bP S'.2.2.length dP))
            clear hq hq0
            go_wp2_with fail
            go_roundw
            case rel => exact ⟨e + 1, by omega, by go_num, by rw [HN.out]; exact ⟨_, _, _, HLY.out⟩, HZ3.out, hb3⟩
            case measure => simp [intOf]; omega
        · obtain rfl : e = l.length := by omega
          have HSF := Lib.hid (HEQ.out rfl)
          obtain ⟨⟨z0, z1, z2, y0, y1, y2⟩, ⟨g0, g1, g2⟩, gz⟩ := HZ.out
          have HLD := Lib.hid (laidP (W := W) (g := W.heap.size) HP.out.own (Nat.le_refl _) (by omega) (by omega) hbw)
          go_wp2_with fail
          refine bodyPost_ret (v := .agg #[.slice aF S.1.length cF, .slice aT S.2.1.length cT, .slice aP S.2.2.length cP]) (by simp [results, Tryz.results160, go_sem, gz, y0, y1, y2]) rfl ⟨_, rfl, ?_, HLD.out.2⟩
          rw [← HSF.out]
          exact HLD.out.1
end Go.Proofs.YtfbmpkdjhhcnpaaGreat


