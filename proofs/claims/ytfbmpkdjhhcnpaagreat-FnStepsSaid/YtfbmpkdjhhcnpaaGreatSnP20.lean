/- Bars of the plane: (2,3)-sparse sets; independent bars are no more than the bars that span them (the count matroid). Plain Lean, no condition. -/
import Derived.Test.YtfbmpkdjhhcnpaaGreatSnP10
set_option linter.unusedSimpArgs false
set_option linter.unusedVariables false
namespace Mtr
abbrev E := Int × Int
def inn (S : Int → Bool) (e : E) : Bool := S e.1 && S e.2
def ic (I : List E) (S : Int → Bool) : Nat := I.countP (inn S)
def sz (n : Nat) (S : Int → Bool) : Nat := (List.range n).countP fun v : Nat => S (v : Int)
def uni (S T : Int → Bool) : Int → Bool := fun v => S v || T v
def int (S T : Int → Bool) : Int → Bool := fun v => S v && T v
def Ind (n : Nat) (I : List E) : Prop := ∀ S, 0 < ic I S → ic I S + 3 ≤ 2 * sz n S
def Tgt (n : Nat) (I : List E) (S : Int → Bool) : Prop := 0 < ic I S ∧ ic I S + 3 = 2 * sz n S
def Bk (n : Nat) (e : E) : Prop := 0 ≤ e.1 ∧ e.1 < e.2 ∧ e.2 < n
def Spn (n : Nat) (I : List E) (e : E) : Prop := ∃ S, Tgt n I S ∧ inn S e = true

theorem countP_not {α : Type} (p : α → Bool) : ∀ l : List α, l.length = l.countP p + l.countP fun e => !p e
 | [] => rfl
 | a :: l => by
  have := countP_not p l
  rw [List.countP_cons, List.countP_cons, List.length_cons]
  cases h : p a <;> simp <;> omega
theorem sz_mod (n : Nat) (S T : Int → Bool) : sz n (uni S T) + sz n (int S T) = sz n S + sz n T := by
 unfold sz
 induction List.range n with
 | nil => rfl
 | cons a l ih =>
  simp only [List.countP_cons, uni, int] at ih ⊢
  cases hS : S a <;> cases hT : T a <;> simp [hS, hT] <;> omega
theorem ic_mod (I : List E) (S T : Int → Bool) : ic I S + ic I T ≤ ic I (uni S T) + ic I (int S T) := by
 unfold ic
 induction I with
 | nil => exact Nat.le_refl _
 | cons a l ih =>
  simp only [List.countP_cons]
  have e1 : inn (uni S T) a = ((S a.1 || T a.1) && (S a.2 || T a.2)) := rfl
  have e2 : inn (int S T) a = ((S a.1 && T a.1) && (S a.2 && T a.2)) := rfl
  have e3 : inn S a = (S a.1 && S a.2) := rfl
  have e4 : inn T a = (T a.1 && T a.2) := rfl
  by_cases h1 : S a.1 = true <;> by_cases h2 : T a.1 = true <;> by_cases h3 : S a.2 = true <;> by_cases h4 : T a.2 = true <;> (try simp only [Bool.not_eq_true] at h1 h2 h3 h4) <;> (simp only [e1, e2, e3, e4, h1, h2, h3, h4]; simp; try omega)
theorem ic_mono {I : List E} {S T : Int → Bool} (h : ∀ e ∈ I, inn S e = true → inn T e = true) : ic I S ≤ ic I T := List.countP_mono_left h
theorem ic_sub {I J : List E} (h : I.Sublist J) (S : Int → Bool) : ic I S ≤ ic J S := h.countP_le
theorem sz_mono {n : Nat} {S T : Int → Bool} (h : ∀ v : Nat, v < n → S v = true → T v = true) : sz n S ≤ sz n T :=
 List.countP_mono_left fun v hv hs => h v (List.mem_range.1 hv) hs
theorem sz_le (n : Nat) (S : Int → Bool) : sz n S ≤ n := by
 have := List.countP_le_length (p := fun v : Nat => S (v : Int)) (l := List.range n)
 simpa [sz] using this
theorem sz_two {n : Nat} {S : Int → Bool} {e : E} (hb : Bk n e) (h : inn S e = true) : 2 ≤ sz n S := by
 obtain ⟨a, b⟩ := e
 obtain ⟨h0, h1, h2⟩ := hb
 simp only [inn, Bool.and_eq_true] at h h0 h1 h2
 obtain ⟨x, rfl⟩ := Int.eq_ofNat_of_zero_le h0
 obtain ⟨y, rfl⟩ := Int.eq_ofNat_of_zero_le (show 0 ≤ b by omega)
 have hs : ([x, y] : List Nat).Sublist (List.range n) := by
  have e1 : List.range n = List.range' 0 n := by rw [List.range_eq_range']
  have h3 : x < n := by omega
  have h4 : y < n := by omega
  have h5 : x < y := by omega
  have : List.range n = List.range y ++ (List.range (n - y)).map (y + ·) := by
   rw [← List.range_add]; congr 1; omega
  rw [this]
  refine List.Sublist.append (l₁ := [x]) (List.singleton_sublist.2 (List.mem_range.2 h5)) (List.singleton_sublist.2 (List.mem_map.2 ⟨0, List.mem_range.2 (by omega), by simp⟩))
 have := hs.countP_le (p := fun v : Nat => S (v : Int))
 unfold sz
 have h6 : ([x, y] : List Nat).countP (fun v : Nat => S (v : Int)) = 2 := by
  have g1 : S (x : Int) = true := h.1
  have g2 : S (y : Int) = true := h.2
  simp [List.countP_cons, g1, g2]
 omega
theorem tgt_uni {n : Nat} {I : List E} (hI : Ind n I) {S T : Int → Bool} (hS : Tgt n I S) (hT : Tgt n I T) {e : E} (hb : Bk n e) (h1 : inn S e = true) (h2 : inn T e = true) : Tgt n I (uni S T) := by
 have m1 := sz_mod n S T
 have m2 := ic_mod I S T
 have hi : inn (int S T) e = true := by simp only [inn, int, Bool.and_eq_true] at *; exact ⟨⟨h1.1, h2.1⟩, h1.2, h2.2⟩
 have h3 := sz_two hb hi
 have h4 : ic I S ≤ ic I (uni S T) := ic_mono fun e _ h => by simp only [inn, uni, Bool.and_eq_true, Bool.or_eq_true] at *; exact ⟨.inl h.1, .inl h.2⟩
 obtain ⟨p1, p2⟩ := hS
 obtain ⟨q1, q2⟩ := hT
 have h5 := hI (uni S T) (by omega)
 refine ⟨by omega, ?_⟩
 rcases Nat.eq_zero_or_pos (ic I (int S T)) with h0 | h0
 ·omega
 ·have h6 := hI _ h0
  omega
end Mtr

namespace Go.Proofs.YtfbmpkdjhhcnpaaGreat
open Go.RowKit Mtr
set_option maxRecDepth 100000
set_option linter.unusedVariables false
set_option linter.unusedSimpArgs false

def fsV (F : List Int) (n : Nat) (V : Int → Bool) : Int := ((List.range n).map fun v : Nat => if V (v : Int) = true then gI F v else 0).sum
theorem count_split (V : Int → Bool) : ∀ (n : Nat) (T : List Int), (∀ t ∈ T, 0 ≤ t ∧ t < n) → ((List.range n).map fun v : Nat => if V (v : Int) = true then T.count (v : Int) else 0).sum = T.countP V
 | n, [], _ => by
  have : ((List.range n).map fun v : Nat => if V (v : Int) = true then ([] : List Int).count (v : Int) else 0) = (List.range n).map fun _ => 0 := by
   refine List.map_congr_left fun v _ => ?_
   simp
  rw [this]
  induction n with
  | zero => rfl
  | succ n ih => rw [List.range_succ, List.map_append, List.sum_append]; simp at ih ⊢; exact ih
 | n, t :: T, h => by
  have ih := count_split V n T fun x hx => h x (by simp [hx])
  obtain ⟨h0, h1⟩ := h t (by simp)
  obtain ⟨tN, rfl⟩ := Int.eq_ofNat_of_zero_le h0
  have key : ∀ m : Nat, ((List.range m).map fun v : Nat => if V (v : Int) = true then ((tN : Int) :: T).count (v : Int) else 0).sum = ((List.range m).map fun v : Nat => if V (v : Int) = true then T.count (v : Int) else 0).sum + (if tN < m ∧ V (tN : Int) = true then 1 else 0) := by
   intro m
   induction m with
   | zero => simp
   | succ m ihm =>
    rw [List.range_succ, List.map_append, List.map_append, List.sum_append, List.sum_append, ihm]
    simp only [List.map_cons, List.map_nil, List.sum_cons, List.sum_nil, Nat.add_zero]
    rw [List.count_cons]
    by_cases e : tN = m
    ·subst e
     by_cases hv : V (tN : Int) = true
     ·simp [hv]; omega
     ·simp [hv]
    ·have e2 : ((tN : Int) == (m : Int)) = false := by rw [beq_eq_false_iff_ne]; omega
     simp only [e2]
     by_cases hv : V (tN : Int) = true
     ·by_cases hl : tN < m
      ·have : tN < m + 1 := by omega
       simp [hv, hl, this]; omega
      ·have : ¬ tN < m + 1 := by omega
       simp [hv, hl, this]
     ·simp [hv]
  rw [key n, ih, List.countP_cons]
  have : tN < n := by omega
  by_cases hv : V (tN : Int) = true
  ·simp [hv, this]
  ·simp [hv]
theorem fs_split {n : Nat} {k : Int} {F T : List Int} (V : Int → Bool) (h : ∀ v : Nat, v < n → gI F v + (T.count (v : Int) : Nat) = k) : ∀ m : Nat, m ≤ n → fsV F m V + (((List.range m).map fun v : Nat => if V (v : Int) = true then T.count (v : Int) else 0).sum : Nat) = k * (sz m V : Nat)
 | 0, _ => by simp [fsV, sz]
 | m + 1, hm => by
  have ih := fs_split V h m (by omega)
  have hv := h m (by omega)
  unfold fsV sz at *
  rw [List.range_succ, List.map_append, List.map_append, List.sum_append, List.sum_append, List.countP_append]
  simp only [List.map_cons, List.map_nil, List.sum_cons, List.sum_nil, List.countP_cons, List.countP_nil]
  by_cases e : V (m : Int) = true
  ·simp only [e, if_true]
   push_cast at ih ⊢
   rw [Int.mul_add]
   omega
  ·simp only [e]
   simp only [Bool.false_eq_true, if_false] at *
   push_cast at ih ⊢
   rw [Int.mul_add]
   omega
theorem fs_nonneg {n : Nat} {F : List Int} {V : Int → Bool} (h : ∀ v : Nat, v < n → 0 ≤ gI F v) : ∀ m, m ≤ n → 0 ≤ fsV F m V
 | 0, _ => by simp [fsV]
 | m + 1, hm => by
  have ih := fs_nonneg (V := V) h m (by omega)
  have := h m (by omega)
  unfold fsV at *
  rw [List.range_succ, List.map_append, List.sum_append]
  simp only [List.map_cons, List.map_nil, List.sum_cons, List.sum_nil]
  split <;> omega
theorem fs_two {n : Nat} {F : List Int} {V : Int → Bool} (h : ∀ v : Nat, v < n → 0 ≤ gI F v) {a b : Nat} (hab : a < b) (ha : V (a : Int) = true) (hb : V (b : Int) = true) : ∀ m, m ≤ n → b < m → gI F a + gI F b ≤ fsV F m V := by
 have one : ∀ m, m ≤ n → a < m → gI F a ≤ fsV F m V := by
  intro m
  induction m with
  | zero => intro _ h; omega
  | succ m ih =>
   intro hm hlt
   have h0 := fs_nonneg (V := V) h m (by omega)
   have h1 := h m (by omega)
   have e : fsV F (m + 1) V = fsV F m V + (if V (m : Int) = true then gI F m else 0) := by
    unfold fsV
    rw [List.range_succ, List.map_append, List.sum_append]
    simp
   rw [e]
   by_cases hm2 : a = m
   ·subst hm2; rw [if_pos ha]; omega
   ·have := ih (by omega) (by omega)
    split <;> omega
 intro m
 induction m with
 | zero => intro _ h; omega
 | succ m ih =>
  intro hm hlt
  have h1 := h m (by omega)
  have e : fsV F (m + 1) V = fsV F m V + (if V (m : Int) = true then gI F m else 0) := by
   unfold fsV
   rw [List.range_succ, List.map_append, List.sum_append]
   simp
  rw [e]
  by_cases hm2 : b = m
  ·subst hm2
   have := one b (by omega) hab
   rw [if_pos hb]; omega
  ·have := ih (by omega) (by omega)
   split <;> omega
def plB (bars : List BarT) (S : PebT) : List E := S.2.2.map fun e => gB bars e.toNat
theorem countP_idx {α : Type} (p : α → Bool) (d : α) : ∀ l : List α, l.countP p = (List.range l.length).countP fun j => p (l[j]?.getD d)
 | [] => rfl
 | x :: l => by
  rw [List.length_cons, List.range_succ_eq_map, List.countP_cons, List.countP_cons, countP_idx p d l, List.countP_map]
  rfl
theorem plB_idx (bars : List BarT) (S : PebT) (V : Int → Bool) : ic (plB bars S) V = (List.range S.2.2.length).countP fun j => inn V (gB bars (gI S.2.2 j).toNat) := by
 unfold ic plB
 rw [List.countP_map, countP_idx _ (0 : Int)]
 rfl
theorem tl_idx (S : PebT) (V : Int → Bool) : S.2.1.countP V = (List.range S.2.1.length).countP fun j => V (gI S.2.1 j) := countP_idx V 0 S.2.1
theorem Inv.tails {n : Nat} {k : Int} {bars : List BarT} {E : Nat} {S : PebT} (h : Inv n k bars E S) (hb : Bok n bars) (hE : E ≤ bars.length) : ∀ t ∈ S.2.1, 0 ≤ t ∧ t < n := by
 intro t ht
 obtain ⟨j, hj⟩ := List.getElem?_of_mem ht
 have hl := lt_of_getElem? hj
 have := (h.hp hb hE (j := j) (by rw [← h.tl]; exact hl)).1
 have e : gI S.2.1 j = t := by unfold gI; rw [hj]; rfl
 rw [← e]; exact this
theorem Inv.sum {n : Nat} {k : Int} {bars : List BarT} {E : Nat} {S : PebT} (h : Inv n k bars E S) (hb : Bok n bars) (hE : E ≤ bars.length) (V : Int → Bool) : fsV S.1 n V + (S.2.1.countP V : Nat) = k * (sz n V : Nat) := by
 have h1 := fs_split (F := S.1) (T := S.2.1) V (fun v hv => (h.fr v hv).2) n (Nat.le_refl _)
 rwa [count_split V n S.2.1 (h.tails hb hE)] at h1
theorem Inv.le {n : Nat} {k : Int} {bars : List BarT} {E : Nat} {S : PebT} (h : Inv n k bars E S) (hb : Bok n bars) (hE : E ≤ bars.length) (V : Int → Bool) : ic (plB bars S) V ≤ S.2.1.countP V := by
 rw [plB_idx, tl_idx, h.tl]
 refine List.countP_mono_left fun j hj hi => ?_
 obtain ⟨e, he, _, ht⟩ := h.pl j (List.mem_range.1 hj)
 rw [he, Int.toNat_natCast] at hi
 simp only [inn, Bool.and_eq_true] at hi
 rcases ht with ht | ht
 ·rw [ht]; exact hi.1
 ·rw [ht]; exact hi.2
theorem Inv.eq {n : Nat} {k : Int} {bars : List BarT} {E : Nat} {S : PebT} (h : Inv n k bars E S) (hb : Bok n bars) (hE : E ≤ bars.length) {V : Int → Bool} (hc : ∀ j : Nat, j < S.2.2.length → V (gI S.2.1 j) = true → V (hop bars S j) = true) : ic (plB bars S) V = S.2.1.countP V := by
 refine Nat.le_antisymm (h.le hb hE V) ?_
 rw [plB_idx, tl_idx, h.tl]
 refine List.countP_mono_left fun j hj hv => ?_
 have hjl := List.mem_range.1 hj
 have h2 := hc j hjl hv
 obtain ⟨_, _, hne, e, he, hel, hsum, hor⟩ := h.hp hb hE hjl
 show inn V (gB bars (gI S.2.2 j).toNat) = true
 rw [he, Int.toNat_natCast]
 simp only [inn, Bool.and_eq_true]
 rcases hor with ho | ho
 ·have : gI S.2.1 j = (gB bars e).2 := by omega
  rw [this] at hv
  rw [ho] at h2
  exact ⟨h2, hv⟩
 ·have : gI S.2.1 j = (gB bars e).1 := by omega
  rw [this] at hv
  rw [ho] at h2
  exact ⟨hv, h2⟩
theorem ind_lay {n : Nat} {bars : List BarT} {E : Nat} {S : PebT} (h : Inv n 2 bars E S) (hb : Bok n bars) (hE : E ≤ bars.length) (hI : Ind n (plB bars S)) {e : Nat} (he : e < bars.length) (h4 : 4 ≤ gI S.1 (gB bars e).1.toNat + gI S.1 (gB bars e).2.toNat) : Ind n (plB bars S ++ [gB bars e]) := by
 intro V hV
 have hbe := hb e he
 unfold ic at hV ⊢
 rw [List.countP_append, List.countP_cons, List.countP_nil] at hV ⊢
 by_cases hi : inn V (gB bars e) = true
 ·rw [if_pos hi] at hV ⊢
  have hle := h.le hb hE V
  have hs := h.sum hb hE V
  simp only [inn, Bool.and_eq_true] at hi
  obtain ⟨x, hx⟩ := Int.eq_ofNat_of_zero_le hbe.1
  obtain ⟨y, hy⟩ := Int.eq_ofNat_of_zero_le (show 0 ≤ (gB bars e).2 by omega)
  rw [hx, hy] at hi h4
  rw [Int.toNat_natCast, Int.toNat_natCast] at h4
  have := fs_two (F := S.1) (V := V) (fun v hv => (h.fr v hv).1) (show x < y by omega) hi.1 hi.2 n (Nat.le_refl _) (by omega)
  unfold ic at hle
  omega
 ·rw [if_neg hi] at hV ⊢
  exact hI V hV

/-! ### a search that fails -/
structure CQ (bars : List BarT) (S : PebT) (b : Int) (q : QuT) (i : Nat) : Prop where
 cl : ∀ i' x, i' < i → q[i']? = some x → ∀ j : Nat, j < S.2.2.length → gI S.2.1 j = x.1 → hop bars S j ∈ q.map (·.1)
 z : ∀ x ∈ q, x.2 ≠ -1 → x.1 = b ∨ gI S.1 x.1.toNat = 0
theorem inner_none {bars : List BarT} {S : PebT} {b u : Int} : ∀ (js : List Nat) (q q' : QuT), inner bars S b u js q = (q', none) → (∀ x ∈ q, x.2 ≠ -1 → x.1 = b ∨ gI S.1 x.1.toNat = 0) →
  (∀ (i : Nat) x, q[i]? = some x → q'[i]? = some x) ∧ (∀ j ∈ js, gI S.2.1 j = u → hop bars S j ∈ q'.map (·.1)) ∧ (∀ x ∈ q', x.2 ≠ -1 → x.1 = b ∨ gI S.1 x.1.toNat = 0)
 | [], q, q', h, hz => by
  simp only [inner, Prod.mk.injEq, and_true] at h
  subst h
  exact ⟨fun _ _ h => h, fun j hj => by simp at hj, hz⟩
 | j :: js, q, q', h, hz => by
  unfold inner at h
  split at h
  ·next ht =>
   split at h
   ·next hs =>
    obtain ⟨h1, h2, h3⟩ := inner_none js q q' h hz
    refine ⟨h1, fun j' hj' ht' => ?_, h3⟩
    rcases List.mem_cons.1 hj' with rfl | hj'
    ·obtain ⟨x, hx, hxe⟩ := List.mem_map.1 (seenQ_iff.1 hs)
     obtain ⟨i, hi⟩ := List.getElem?_of_mem hx
     exact List.mem_map.2 ⟨x, List.mem_of_getElem? (h1 i x hi), hxe⟩
    ·exact h2 j' hj' ht'
   ·next hs =>
    split at h
    ·next hor =>
     have hz2 : ∀ x ∈ q ++ [(hop bars S j, (j : Int))], x.2 ≠ -1 → x.1 = b ∨ gI S.1 x.1.toNat = 0 := by
      intro x hx hn
      rcases List.mem_append.1 hx with hx | hx
      ·exact hz x hx hn
      ·simp at hx; subst hx; exact hor
     obtain ⟨h1, h2, h3⟩ := inner_none js _ q' h hz2
     refine ⟨fun i x hx => h1 i x (by rw [List.getElem?_append_left (lt_of_getElem? hx)]; exact hx), fun j' hj' ht' => ?_, h3⟩
     rcases List.mem_cons.1 hj' with rfl | hj'
     ·exact List.mem_map.2 ⟨(hop bars S j', (j' : Int)), List.mem_of_getElem? (h1 q.length _ (by simp)), rfl⟩
     ·exact h2 j' hj' ht'
    ·cases h
  ·next ht =>
   obtain ⟨h1, h2, h3⟩ := inner_none js q q' h hz
   refine ⟨h1, fun j' hj' ht' => ?_, h3⟩
   rcases List.mem_cons.1 hj' with rfl | hj'
   ·exact absurd ht' ht
   ·exact h2 j' hj' ht'
theorem outer_none {n : Nat} {k : Int} {bars : List BarT} {E : Nat} {S : PebT} {a b : Int} (hI : Inv n k bars E S) (hb : Bok n bars) (hE : E ≤ bars.length) (hn : n ≤ 8) : ∀ (f i : Nat) (q : QuT), f + i = 10 → QI n bars S a q → CQ bars S b q i → outer bars S b f i q = none → ∃ q', QI n bars S a q' ∧ CQ bars S b q' q'.length
 | 0, i, q, hfi, hq, hc, _ => ⟨q, hq, ⟨fun i' x hi' hx => hc.cl i' x (by have := hq.le; omega) hx, hc.z⟩⟩
 | f + 1, i, q, hfi, hq, hc, h => by
  unfold outer at h
  split at h
  ·next hx =>
   have hl : q.length ≤ i := List.getElem?_eq_none_iff.1 hx
   exact ⟨q, hq, ⟨fun i' x hi' hx => hc.cl i' x (by omega) hx, hc.z⟩⟩
  ·next x hx =>
   have hin := inner_QI (a := a) (b := b) hI hb hE (y := x) (List.range S.2.2.length) hq hx (fun j hj => by simpa using hj)
   split at h
   ·cases h
   ·next q1 he =>
    rw [he] at hin
    obtain ⟨h1, h2, h3⟩ := inner_none _ _ _ he hc.z
    refine outer_none hI hb hE hn f (i + 1) q1 (by omega) hin.1 ⟨fun i' y hi' hy j hj ht => ?_, h3⟩ h
    rcases Nat.lt_or_ge i' i with hlt | hge
    ·obtain ⟨y', hy'⟩ : ∃ y', q[i']? = some y' := ⟨_, List.getElem?_eq_getElem (by have := lt_of_getElem? hx; omega)⟩
     have e := h1 i' y' hy'
     rw [hy] at e
     cases e
     obtain ⟨z, hz, hze⟩ := List.mem_map.1 (hc.cl i' y hlt hy' j hj ht)
     obtain ⟨iz, hiz⟩ := List.getElem?_of_mem hz
     exact List.mem_map.2 ⟨z, List.mem_of_getElem? (h1 iz z hiz), hze⟩
    ·have : i' = i := by omega
     subst this
     have e := h1 i' x hx
     rw [hy] at e
     cases e
     exact h2 j (List.mem_range.2 hj) ht
def setQ (q : QuT) (v : Int) : Bool := seenQ q v
theorem findP_none {n : Nat} {k : Int} {bars : List BarT} {E : Nat} {S : PebT} {a b : Int} (hI : Inv n k bars E S) (hb : Bok n bars) (hE : E ≤ bars.length) (hn : n ≤ 8) (ha : 0 ≤ a ∧ a < n) (h : findP bars a b S = none) :
  ∃ R : Int → Bool, R a = true ∧ (∀ j : Nat, j < S.2.2.length → R (gI S.2.1 j) = true → R (hop bars S j) = true) ∧ ∀ v : Nat, v < n → R v = true → (v : Int) = a ∨ (v : Int) = b ∨ gI S.1 v = 0 := by
 have ho : outer bars S b 10 0 [(a, -1)] = none := by
  unfold findP at h
  split at h
  ·assumption
  ·cases h
 obtain ⟨q, hq, hc⟩ := outer_none hI hb hE hn 10 0 [(a, -1)] rfl (QI.start ha.1 ha.2) ⟨fun i' x hi' => by omega, fun x hx hne => by simp at hx; subst hx; exact absurd rfl hne⟩ ho
 refine ⟨setQ q, seenQ_iff.2 (List.mem_map.2 ⟨(a, -1), List.mem_of_getElem? hq.hd, rfl⟩), fun j hj hR => ?_, fun v hv hR => ?_⟩
 ·obtain ⟨x, hx, hxe⟩ := List.mem_map.1 (seenQ_iff.1 hR)
  obtain ⟨i, hi⟩ := List.getElem?_of_mem hx
  exact seenQ_iff.2 (hc.cl i x (lt_of_getElem? hi) hi j hj hxe.symm)
 ·obtain ⟨x, hx, hxe⟩ := List.mem_map.1 (seenQ_iff.1 hR)
  obtain ⟨i, hi⟩ := List.getElem?_of_mem hx
  by_cases h0 : i = 0
  ·subst h0
   rw [hq.hd] at hi
   cases hi
   exact .inl hxe.symm
  ·obtain ⟨j, i', y, h1, h2, _⟩ := hq.up i x hi h0
   have hne : x.2 ≠ -1 := by rw [h1]; omega
   rcases hc.z x hx hne with h3 | h3
   ·exact .inr (.inl (by rw [← hxe]; exact h3))
   ·right; right
    have hxe2 : x.1 = (v : Int) := hxe
    rw [hxe2, Int.toNat_natCast] at h3
    exact h3
theorem fs_le_two {n : Nat} {F : List Int} {V : Int → Bool} {a b : Nat} (hab : a ≠ b) (h : ∀ v : Nat, v < n → 0 ≤ gI F v) (hz : ∀ v : Nat, v < n → V v = true → v = a ∨ v = b ∨ gI F v = 0) (ha : 0 ≤ gI F a) (hb : 0 ≤ gI F b) : ∀ m, m ≤ n → fsV F m V ≤ (if a < m then gI F a else 0) + (if b < m then gI F b else 0)
 | 0, _ => by simp [fsV]
 | m + 1, hm => by
  have ih := fs_le_two hab h hz ha hb m (by omega)
  have e : fsV F (m + 1) V = fsV F m V + (if V (m : Int) = true then gI F m else 0) := by
   unfold fsV
   rw [List.range_succ, List.map_append, List.sum_append]
   simp
  rw [e]
  by_cases hv : V (m : Int) = true
  ·rw [if_pos hv]
   rcases hz m (by omega) hv with h1 | h1 | h1
   ·subst h1
    rw [if_neg (show ¬ m < m by omega)] at ih
    rw [if_pos (show m < m + 1 by omega)]
    by_cases hbm : b < m
    ·rw [if_pos hbm] at ih; rw [if_pos (by omega)]; omega
    ·rw [if_neg hbm] at ih; rw [if_neg (by omega)]; omega
   ·subst h1
    rw [if_neg (show ¬ m < m by omega)] at ih
    rw [if_pos (show m < m + 1 by omega)]
    by_cases ham : a < m
    ·rw [if_pos ham] at ih; rw [if_pos (show a < m + 1 by omega)]; omega
    ·rw [if_neg ham] at ih; rw [if_neg (show ¬ a < m + 1 by omega)]; omega
   ·rw [h1]
    by_cases ham : a < m <;> by_cases hbm : b < m <;> by_cases ham1 : a < m + 1 <;> by_cases hbm1 : b < m + 1 <;> simp only [ham, hbm, ham1, hbm1, if_true, if_false] at ih ⊢ <;> omega
  ·rw [if_neg hv]
   by_cases ham : a < m <;> by_cases hbm : b < m <;> by_cases ham1 : a < m + 1 <;> by_cases hbm1 : b < m + 1 <;> simp only [ham, hbm, ham1, hbm1, if_true, if_false] at ih ⊢ <;> omega
theorem tight_fail {n : Nat} {bars : List BarT} {E : Nat} {S : PebT} {a b : Nat} (hI : Inv n 2 bars E S) (hb : Bok n bars) (hE : E ≤ bars.length) (hn : n ≤ 8) (ha : a < n) (hbn : b < n) (hab : a ≠ b) (hInd : Ind n (plB bars S)) (h3 : gI S.1 a + gI S.1 b ≤ 3) (h1 : findP bars a b S = none) (h2 : findP bars b a S = none) :
  ∃ V, Tgt n (plB bars S) V ∧ V a = true ∧ V b = true := by
 obtain ⟨R, r1, r2, r3⟩ := findP_none hI hb hE hn ⟨by omega, by omega⟩ h1
 obtain ⟨Q, q1, q2, q3⟩ := findP_none hI hb hE hn ⟨by omega, by omega⟩ h2
 have hU : ∀ v : Nat, v < n → uni R Q v = true → v = a ∨ v = b ∨ gI S.1 v = 0 := fun v hv h => by
  simp only [uni, Bool.or_eq_true] at h
  rcases h with h | h
  ·rcases r3 v hv h with h | h | h
   ·exact .inl (by omega)
   ·exact .inr (.inl (by omega))
   ·exact .inr (.inr h)
  ·rcases q3 v hv h with h | h | h
   ·exact .inr (.inl (by omega))
   ·exact .inl (by omega)
   ·exact .inr (.inr h)
 have hUa : uni R Q a = true := by simp [uni, r1]
 have hUb : uni R Q b = true := by simp [uni, q1]
 have hf : fsV S.1 n (uni R Q) ≤ 3 := by
  have := fs_le_two (V := uni R Q) hab (fun v hv => (hI.fr v hv).1) hU (hI.fr a ha).1 (hI.fr b hbn).1 n (Nat.le_refl _)
  rw [if_pos ha, if_pos hbn] at this
  omega
 have hs := hI.sum hb hE (uni R Q)
 have he := hI.eq hb hE (V := uni R Q) (fun j hj hv => by
  simp only [uni, Bool.or_eq_true] at hv ⊢
  rcases hv with hv | hv
  ·exact .inl (r2 j hj hv)
  ·exact .inr (q2 j hj hv))
 have hz : 2 ≤ sz n (uni R Q) := by
  rcases Nat.lt_or_ge a b with hlt | hge
  ·exact sz_two (e := ((a : Int), (b : Int))) ⟨by simp, by simp; omega, by simp; omega⟩ (by simp [inn, hUa, hUb])
  ·exact sz_two (e := ((b : Int), (a : Int))) ⟨by simp, by simp; omega, by simp; omega⟩ (by simp [inn, hUa, hUb])
 have hpos : 0 < ic (plB bars S) (uni R Q) := by omega
 have := hInd _ hpos
 exact ⟨uni R Q, ⟨hpos, by omega⟩, hUa, hUb⟩
theorem gather_tight {n : Nat} {bars : List BarT} {E : Nat} {a b : Nat} (hb : Bok n bars) (hE : E ≤ bars.length) (hn : n ≤ 8) (ha : a < n) (hbn : b < n) (hab : a ≠ b) : ∀ (f : Nat) (S : PebT), Inv n 2 bars E S → (∀ S', S'.2.2 = S.2.2 → Ind n (plB bars S')) → (gatherP bars a b 4 f S).2 = false →
  ∃ V, Tgt n (plB bars S) V ∧ V a = true ∧ V b = true
 | 0, S, _, _, h => by simp [gatherP] at h
 | f + 1, S, hI, hInd, h => by
  have eqP : ∀ S' : PebT, S'.2.2 = S.2.2 → plB bars S' = plB bars S := fun S' e => by unfold plB; rw [e]
  by_cases hlt : gI S.1 (a : Int).toNat + gI S.1 (b : Int).toNat < 4
  ·cases hf : findP bars a b S with
   | some S' =>
    rw [gatherP, if_pos hlt] at h
    simp only [hf] at h
    obtain ⟨i1, _, _, i4⟩ := findP_ok hI hb hE hn (a := (a : Int)) (b := (b : Int)) ⟨by omega, by omega⟩ ⟨by omega, by omega⟩ (by omega) hf
    obtain ⟨V, hV⟩ := gather_tight hb hE hn ha hbn hab f S' i1 (fun S'' e => hInd S'' (e.trans i4)) h
    rw [eqP S' i4] at hV
    exact ⟨V, hV⟩
   | none =>
    cases hf2 : findP bars b a S with
    | some S' =>
     rw [gatherP, if_pos hlt] at h
     simp only [hf, hf2] at h
     obtain ⟨i1, _, _, i4⟩ := findP_ok hI hb hE hn (a := (b : Int)) (b := (a : Int)) ⟨by omega, by omega⟩ ⟨by omega, by omega⟩ (by omega) hf2
     obtain ⟨V, hV⟩ := gather_tight hb hE hn ha hbn hab f S' i1 (fun S'' e => hInd S'' (e.trans i4)) h
     rw [eqP S' i4] at hV
     exact ⟨V, hV⟩
    | none =>
     rw [Int.toNat_natCast, Int.toNat_natCast] at hlt
     exact tight_fail hI hb hE hn ha hbn hab (hInd S rfl) (by omega) hf hf2
  ·rw [gatherP, if_neg hlt] at h
   cases h
theorem tgt_snoc {n : Nat} {I : List E} {x : E} {V : Int → Bool} (hI : Ind n (I ++ [x])) (h : Tgt n I V) : Tgt n (I ++ [x]) V := by
 have h1 : ic I V ≤ ic (I ++ [x]) V := ic_sub (List.sublist_append_left I [x]) V
 obtain ⟨p1, p2⟩ := h
 have := hI V (by omega)
 exact ⟨by omega, by omega⟩
theorem spn_self {n : Nat} {I : List E} {x : E} (hI : Ind n I) (hx : x ∈ I) (hb : Bk n x) : Spn n I x := by
 obtain ⟨h0, h1, h2⟩ := hb
 obtain ⟨a, ha⟩ := Int.eq_ofNat_of_zero_le h0
 obtain ⟨b, hbb⟩ := Int.eq_ofNat_of_zero_le (show 0 ≤ x.2 by omega)
 refine ⟨fun v => v == x.1 || v == x.2, ?_, by simp [inn]⟩
 have hs : sz n (fun v => v == x.1 || v == x.2) ≤ 2 := by
  unfold sz
  have hone : ∀ (c m : Nat), ((List.range m).countP fun v : Nat => (v : Int) == (c : Int)) ≤ 1 := by
   intro c m
   induction m with
   | zero => simp
   | succ m ih =>
    rw [List.range_succ, List.countP_append, List.countP_cons, List.countP_nil]
    by_cases e : m = c
    ·subst e
     have : ((List.range m).countP fun v : Nat => (v : Int) == (m : Int)) = 0 := by
      rw [List.countP_eq_zero]
      intro v hv
      have := List.mem_range.1 hv
      simp; omega
     rw [this]; simp
    ·have : ((m : Int) == (c : Int)) = false := by rw [beq_eq_false_iff_ne]; omega
     rw [this]; simpa using ih
  have hor : ∀ m : Nat, ((List.range m).countP fun v : Nat => (v : Int) == x.1 || (v : Int) == x.2) ≤ ((List.range m).countP fun v : Nat => (v : Int) == x.1) + ((List.range m).countP fun v : Nat => (v : Int) == x.2) := by
   intro m
   induction m with
   | zero => simp
   | succ m ih =>
    rw [List.range_succ]
    simp only [List.countP_append, List.countP_cons, List.countP_nil]
    by_cases e1 : ((m : Int) == x.1) = true <;> by_cases e2 : ((m : Int) == x.2) = true <;> simp [e1, e2] at ih ⊢ <;> omega
  have g1 := hone a n
  have g2 := hone b n
  have g3 := hor n
  rw [ha, hbb] at g3
  rw [ha, hbb]
  exact Nat.le_trans g3 (by omega)
 have hp : 0 < ic I (fun v => v == x.1 || v == x.2) := List.countP_pos_iff.2 ⟨x, hx, by simp [inn]⟩
 have := hI _ hp
 exact ⟨hp, by omega⟩
theorem play_ind {n : Nat} {bars : List BarT} (hb : Bok n bars) (hn : n ≤ 8) : ∀ e, e ≤ bars.length → Ind n (plB bars (playTo bars 3 (List.replicate n 2, [], []) e)) ∧ ∀ e', e' < e → Spn n (plB bars (playTo bars 3 (List.replicate n 2, [], []) e)) (gB bars e')
 | 0, _ => ⟨fun V hV => by
   have e0 : ic (plB bars (playTo bars 3 (List.replicate n 2, [], []) 0)) V = 0 := rfl
   omega, fun e' he => by omega⟩
 | e + 1, he => by
  obtain ⟨ih1, ih2⟩ := play_ind hb hn e (by omega)
  have hI := playTo_ok (k := 2) (l := 3) (by omega) hb hn ⟨by omega, by omega⟩ e (by omega)
  have hbe := hb e (by omega)
  obtain ⟨x, hx⟩ := Int.eq_ofNat_of_zero_le hbe.1
  obtain ⟨y, hy⟩ := Int.eq_ofNat_of_zero_le (show 0 ≤ (gB bars e).2 by omega)
  unfold playTo
  generalize playTo bars 3 (List.replicate n 2, [], []) e = S at *
  have eqP : ∀ S' : PebT, S'.2.2 = S.2.2 → plB bars S' = plB bars S := fun S' e => by unfold plB; rw [e]
  have hok := gatherP_ok (want := 4) hb (show e ≤ bars.length by omega) hn (a := (x : Int)) (b := (y : Int)) ⟨by omega, by omega⟩ ⟨by omega, by omega⟩ (by omega) 7 S hI
  cases hG : gatherP bars (x : Int) (y : Int) 4 7 S with
  | mk S' ok =>
   rw [hG] at hok
   obtain ⟨o1, o2, o3⟩ := hok
   dsimp only at o1 o2 o3
   cases ok
   ·have hpl : placeP bars 3 S e = none := by
     unfold placeP
     rw [hx, hy]
     show (match gatherP bars (x : Int) (y : Int) (3 + 1) 7 S with | (S', true) => _ | (_, false) => _) = none
     rw [show (3 + 1 : Int) = 4 from rfl, hG]
    rw [hpl]
    refine ⟨ih1, fun e' he' => ?_⟩
    rcases Nat.lt_or_ge e' e with hlt | hge
    ·exact ih2 e' hlt
    ·have : e' = e := by omega
     subst this
     obtain ⟨V, hV, va, vb⟩ := gather_tight hb (show e' ≤ bars.length by omega) hn (a := x) (b := y) (by omega) (by omega) (by omega) 7 S hI (fun S'' h => by rw [eqP S'' h]; exact ih1) (by rw [hG])
     exact ⟨V, hV, by simp only [inn, hx, hy, va, vb]; rfl⟩
   ·have hpl : placeP bars 3 S e = some (layP S' (if gI S'.1 (gB bars e).1.toNat = 0 then (gB bars e).2 else (gB bars e).1) e) := by
     unfold placeP
     rw [hx, hy]
     show (match gatherP bars (x : Int) (y : Int) (3 + 1) 7 S with | (S', true) => _ | (_, false) => _) = _
     rw [show (3 + 1 : Int) = 4 from rfl, hG]
    rw [hpl]
    have f0 := hI.fr x (by omega)
    have f1 := hI.fr y (by omega)
    have h4 := o3 rfl (by rw [Int.toNat_natCast, Int.toNat_natCast]; push_cast; omega)
    have hnew : plB bars (layP S' (if gI S'.1 (gB bars e).1.toNat = 0 then (gB bars e).2 else (gB bars e).1) e) = plB bars S ++ [gB bars e] := by
     unfold plB layP
     dsimp only
     rw [List.map_append, o2]
     simp
    have hind : Ind n (plB bars S ++ [gB bars e]) := by
     have := ind_lay o1 hb (show e ≤ bars.length by omega) (by rw [eqP S' o2]; exact ih1) (show e < bars.length by omega) (by rw [hx, hy]; exact h4)
     rwa [eqP S' o2] at this
    show Ind n (plB bars (layP S' _ e)) ∧ _
    rw [Option.getD_some, hnew]
    refine ⟨hind, fun e' he' => ?_⟩
    rcases Nat.lt_or_ge e' e with hlt | hge
    ·obtain ⟨V, hV, hi⟩ := ih2 e' hlt
     exact ⟨V, tgt_snoc hind hV, hi⟩
    ·have : e' = e := by omega
     subst this
     exact spn_self hind (by simp) hbe
end Go.Proofs.YtfbmpkdjhhcnpaaGreat

