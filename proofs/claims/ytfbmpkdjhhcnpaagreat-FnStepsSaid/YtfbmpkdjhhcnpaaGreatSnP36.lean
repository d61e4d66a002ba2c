/- Sparse by counting over all sets of points is sparse in the count matroid's words. No program in sight. -/
import Derived.Test.YtfbmpkdjhhcnpaaGreatSnP18
import Derived.Test.YtfbmpkdjhhcnpaaGreatSnP35
import Derived.Test.YtfbmpkdjhhcnpaaGreatSnP20
namespace Go.Proofs.YtfbmpkdjhhcnpaaGreat
open Go.RowKit
set_option maxRecDepth 100000
set_option linter.unusedVariables false
set_option linter.unusedSimpArgs false
def maskOf (U : Nat → Bool) : Nat → Nat
 | 0 => 0
 | v + 1 => maskOf U v + (if U v = true then 2 ^ v else 0)
theorem maskOf_lt (U : Nat → Bool) : ∀ p, maskOf U p < 2 ^ p
 | 0 => by show 0 < 1; omega
 | v + 1 => by
  have := maskOf_lt U v
  unfold maskOf
  rw [Nat.pow_succ]
  split <;> omega
theorem bit_add {M v p b : Nat} (h : v < p) : (M + b * 2 ^ p) / 2 ^ v % 2 = M / 2 ^ v % 2 := by
 obtain ⟨d, rfl⟩ : ∃ d, p = v + (d + 1) := ⟨p - v - 1, by omega⟩
 have e : M + b * 2 ^ (v + (d + 1)) = M + 2 ^ v * (2 * (b * 2 ^ d)) := by rw [Nat.pow_add, Nat.pow_succ]; grind
 rw [e, Nat.add_mul_div_left _ _ (Nat.two_pow_pos v)]
 omega
theorem bit_mask (U : Nat → Bool) : ∀ p v, v < p → bitB (maskOf U p) v = U v
 | 0, v, h => by omega
 | p + 1, v, h => by
  unfold maskOf bitB
  by_cases e : v = p
  ·subst e
   have h1 := maskOf_lt U v
   cases hu : U v
   ·rw [if_neg (by simp), Nat.add_zero, Nat.div_eq_of_lt h1]; rfl
   ·rw [if_pos rfl, Nat.add_div_right _ (Nat.two_pow_pos v), Nat.div_eq_of_lt h1]; rfl
  ·have ih := bit_mask U p v (by omega)
   unfold bitB at ih
   cases hu : U p
   ·rw [if_neg (by simp), Nat.add_zero]; exact ih
   ·rw [if_pos rfl]
    have := bit_add (M := maskOf U p) (b := 1) (show v < p by omega)
    rw [Nat.one_mul] at this
    rw [this]; exact ih
theorem sizeM_cnt (m : Nat) : ∀ p, sizeM m p = Fo.cnt p (bitB m)
 | 0 => rfl
 | p + 1 => by rw [sizeM_succ, Fo.cnt_succ, sizeM_cnt m p]
def spU (l : List BarT) (U : Nat → Bool) : Nat := l.countP fun x => U x.1.toNat && U x.2.toNat
theorem spanM_sp {P : Nat} {l : List BarT} (hr : ∀ x ∈ l, (0 ≤ x.1 ∧ x.1 < P) ∧ (0 ≤ x.2 ∧ x.2 < P)) {m : Nat} {U : Nat → Bool} (h : ∀ v, v < P → bitB m v = U v) : spanM l m l.length = spU l U := by
 unfold spanM spU
 rw [List.take_length, ← List.countP_eq_length_filter]
 refine List.countP_congr fun x hx => ?_
 have := hr x hx
 unfold bothB
 rw [h _ (by omega), h _ (by omega)]
theorem over_iff {P : Nat} {l : List BarT} {k r : Int} (hr : ∀ x ∈ l, (0 ≤ x.1 ∧ x.1 < P) ∧ (0 ≤ x.2 ∧ x.2 < P)) : overB P l k r = false ↔ ∀ U : Nat → Bool, 0 < spU l U → (spU l U : Int) + r ≤ k * Fo.cnt P U := by
 constructor
 ·intro h U hU
  have h1 : overAt P l k r (maskOf U P) = false := Bool.eq_false_iff.2 fun hc => by
   rw [overB_yes (maskOf_lt U P) hc] at h; exact Bool.noConfusion h
  unfold overAt at h1
  rw [spanM_sp hr (U := U) (bit_mask U P), sizeM_cnt, Fo.cnt_congr (fun v hv => bit_mask U P v hv), decide_eq_true hU, Bool.true_and, decide_eq_false_iff_not] at h1
  omega
 ·intro h
  refine overB_no fun m hm => ?_
  unfold overAt
  rw [spanM_sp hr (U := bitB m) (fun v _ => rfl), sizeM_cnt, Bool.and_eq_false_iff, decide_eq_false_iff_not, decide_eq_false_iff_not]
  by_cases h0 : 0 < spU l (bitB m)
  ·right; have := h _ h0; omega
  ·exact .inl h0
theorem spU_ic {P : Nat} {l : List BarT} (hr : ∀ x ∈ l, (0 ≤ x.1 ∧ x.1 < P) ∧ (0 ≤ x.2 ∧ x.2 < P)) (U : Nat → Bool) (S : Int → Bool) (h : ∀ v : Nat, U v = S (v : Int)) : spU l U = Mtr.ic l S := by
 unfold spU Mtr.ic
 refine List.countP_congr fun x hx => ?_
 have := hr x hx
 unfold Mtr.inn
 rw [h, h, Int.toNat_of_nonneg (by omega), Int.toNat_of_nonneg (by omega)]
theorem cnt_sz (P : Nat) (U : Nat → Bool) (S : Int → Bool) (h : ∀ v : Nat, U v = S (v : Int)) : Fo.cnt P U = Mtr.sz P S := by
 unfold Fo.cnt Mtr.sz
 rw [← List.countP_eq_length_filter]
 exact List.countP_congr fun v _ => by rw [h v]
theorem ind_over {P : Nat} {l : List BarT} (hr : ∀ x ∈ l, (0 ≤ x.1 ∧ x.1 < P) ∧ (0 ≤ x.2 ∧ x.2 < P)) : overB P l 2 3 = false ↔ Mtr.Ind P l := by
 rw [over_iff hr]
 constructor
 ·intro h S hS
  have h1 := h (fun v => S (v : Int))
  rw [spU_ic hr _ S (fun _ => rfl), cnt_sz P _ S (fun _ => rfl)] at h1
  have := h1 hS
  omega
 ·intro h U hU
  have e : ∀ v : Nat, U v = (fun x : Int => U x.toNat) (v : Int) := fun v => by simp
  have h1 := h (fun x : Int => U x.toNat)
  rw [← spU_ic hr U _ e, ← cnt_sz P U _ e] at h1
  have := h1 hU
  omega
end Go.Proofs.YtfbmpkdjhhcnpaaGreat

set_option linter.unusedSimpArgs false
set_option linter.unusedVariables false
namespace Mtr
def tch (v : Int) (e : E) : Bool := e.1 == v || e.2 == v
def deg (l : List E) (v : Int) : Nat := l.countP (tch v)
def drp (l : List E) (v : Int) : List E := l.filter fun e => !tch v e
def used (l : List E) : Int → Bool := fun v => decide (0 < deg l v)
def oth (e : E) (v : Int) : Int := e.1 + e.2 - v
def mkE (a b : Int) : E := (min a b, max a b)
theorem countP_split {α : Type} (p q : α → Bool) : ∀ l : List α, l.countP p = (l.filter q).countP p + (l.filter fun e => !q e).countP p
 | [] => rfl
 | a :: l => by
  have := countP_split p q l
  cases hq : q a
  ·rw [List.filter_cons_of_neg (by simp [hq]), List.filter_cons_of_pos (by simp [hq]), List.countP_cons, List.countP_cons]; omega
  ·rw [List.filter_cons_of_pos (by simp [hq]), List.filter_cons_of_neg (by simp [hq]), List.countP_cons, List.countP_cons]; omega
theorem len_drp (l : List E) (v : Int) : (drp l v).length + deg l v = l.length := by
 have := countP_not (tch v) l
 unfold drp deg
 rw [← List.countP_eq_length_filter]
 omega
theorem sz_one (n : Nat) (v : Int) : sz n (fun x => x == v) = if 0 ≤ v ∧ v < n then 1 else 0 := by
 induction n with
 | zero => rw [if_neg (by omega)]; rfl
 | succ n ih =>
  unfold sz at ih ⊢
  rw [List.range_succ, List.countP_append, ih, List.countP_singleton]
  by_cases e : (n : Int) = v
  ·subst e
   simp
   omega
  ·have : ((n : Int) == v) = false := by simpa using e
   simp only [this, Bool.false_eq_true, if_false]
   split <;> split <;> omega
theorem sz_zero {n : Nat} {S : Int → Bool} (h : ∀ v : Nat, v < n → S v = false) : sz n S = 0 := by
 unfold sz
 rw [List.countP_eq_zero]
 intro v hv
 rw [h v (List.mem_range.1 hv)]
 simp
theorem sz_congr {n : Nat} {S T : Int → Bool} (h : ∀ v : Nat, v < n → S v = T v) : sz n S = sz n T := by
 unfold sz
 exact List.countP_congr fun v hv => by rw [h v (List.mem_range.1 hv)]
theorem sz_add {n : Nat} {S : Int → Bool} {v : Int} (hv : 0 ≤ v ∧ v < n) (h : S v = false) : sz n (uni S fun x => x == v) = sz n S + 1 := by
 have h1 := sz_mod n S fun x => x == v
 have h2 : sz n (int S fun x => x == v) = 0 := sz_zero fun u hu => by
  unfold int
  by_cases e : (u : Int) = v
  ·rw [e, h]; rfl
  ·have : ((u : Int) == v) = false := by simpa using e
   show (S u && ((u : Int) == v)) = false
   rw [this, Bool.and_false]
 rw [sz_one, if_pos hv] at h1
 omega
theorem sz_sub {n : Nat} {S : Int → Bool} {v : Int} (hv : 0 ≤ v ∧ v < n) (h : S v = true) : sz n (fun x => S x && !(x == v)) + 1 = sz n S := by
 have h1 := sz_add (S := fun x => S x && !(x == v)) hv (by simp)
 rw [← h1]
 refine sz_congr fun u hu => ?_
 unfold uni
 by_cases e : (u : Int) = v
 ·rw [e, h]; simp
 ·have : ((u : Int) == v) = false := by simpa using e
  show ((S u && !((u : Int) == v)) || ((u : Int) == v)) = S u
  rw [this]; simp
theorem sz_pair (n : Nat) (v w : Int) : sz n (uni (fun x => x == v) fun x => x == w) ≤ 2 := by
 have h1 := sz_mod n (fun x => x == v) fun x => x == w
 have h2 := sz_one n v
 have h3 := sz_one n w
 split at h2 <;> split at h3 <;> omega
theorem sz_pair2 {n : Nat} {v w : Int} (hv : 0 ≤ v ∧ v < n) (hw : 0 ≤ w ∧ w < n) (h : v ≠ w) : sz n (uni (fun x => x == v) fun x => x == w) = 2 := by
 rw [sz_add hw (by simpa using Ne.symm h), sz_one, if_pos hv]
theorem ic_perm {I J : List E} (h : I.Perm J) (S : Int → Bool) : ic I S = ic J S := h.countP_eq _
theorem Ind.perm {n : Nat} {I J : List E} (h : Ind n I) (hp : I.Perm J) : Ind n J := fun S hS => by
 rw [← ic_perm hp] at hS ⊢
 exact h S hS
theorem Ind.sub {n : Nat} {I J : List E} (h : Ind n J) (hs : I.Sublist J) : Ind n I := fun S hS => by
 have h1 := ic_sub hs S
 have h2 := h S (by omega)
 omega
theorem mult {n : Nat} {l : List E} (hI : Ind n l) (hb : ∀ e ∈ l, Bk n e) (v w : Int) (hvw : v ≠ w) : l.countP (fun e => tch v e && tch w e) ≤ 1 := by
 refine Nat.le_of_not_lt fun hc => ?_
 have h1 : l.countP (fun e => tch v e && tch w e) ≤ ic l (uni (fun x => x == v) fun x => x == w) := List.countP_mono_left fun e he h => by
  have hbe := hb e he
  unfold Bk at hbe
  simp only [tch, Bool.and_eq_true, Bool.or_eq_true, beq_iff_eq] at h
  simp only [inn, uni, Bool.and_eq_true, Bool.or_eq_true, beq_iff_eq]
  omega
 have h2 := hI (uni (fun x => x == v) fun x => x == w) (by omega)
 have h3 := sz_pair n v w
 omega
theorem used_ends {l : List E} {e : E} (he : e ∈ l) : used l e.1 = true ∧ used l e.2 = true := by
 constructor
 ·exact decide_eq_true (List.countP_pos_iff.2 ⟨e, he, by simp [tch]⟩)
 ·exact decide_eq_true (List.countP_pos_iff.2 ⟨e, he, by simp [tch]⟩)
theorem used_rng {n : Nat} {l : List E} (hb : ∀ e ∈ l, Bk n e) {v : Int} (h : 0 < deg l v) : 0 ≤ v ∧ v < n := by
 obtain ⟨e, he, ht⟩ := List.countP_pos_iff.1 h
 have := hb e he
 unfold Bk at this
 simp only [tch, Bool.or_eq_true, beq_iff_eq] at ht
 omega
structure Lam (n : Nat) (l : List E) : Prop where
 ind : Ind n l
 bk : ∀ e ∈ l, Bk n e
 cnt : l.length + 3 = 2 * sz n (used l)
theorem deg_perm {I J : List E} (h : I.Perm J) (v : Int) : deg I v = deg J v := h.countP_eq _
theorem used_perm {I J : List E} (h : I.Perm J) : used I = used J := funext fun v => by unfold used; rw [deg_perm h]
theorem Lam.perm {n : Nat} {I J : List E} (h : Lam n I) (hp : I.Perm J) : Lam n J := ⟨h.ind.perm hp, fun e he => h.bk e (hp.mem_iff.2 he), by rw [← used_perm hp, ← hp.length_eq]; exact h.cnt⟩
theorem Lam.two {n : Nat} {l : List E} (h : Lam n l) (hl : 2 ≤ l.length) {v : Int} (hv : 0 < deg l v) : 2 ≤ deg l v := by
 have hr := used_rng h.bk hv
 have h1 := sz_sub (n := n) (S := used l) hr (decide_eq_true hv)
 have h2 : ic l (fun x => used l x && !(x == v)) = (drp l v).length := by
  unfold ic drp
  rw [← List.countP_eq_length_filter]
  refine List.countP_congr fun e he => ?_
  obtain ⟨u1, u2⟩ := used_ends he
  simp only [inn, tch, u1, u2, Bool.true_and, Bool.not_or]
 have h3 := len_drp l v
 have h4 := h.ind (fun x => used l x && !(x == v))
 have h5 := h.cnt
 omega
theorem sum_add_ind (f g : Nat → Nat) (p : Nat → Bool) (h : ∀ v, f v = g v + if p v = true then 1 else 0) : ∀ L : List Nat, (L.map f).sum = (L.map g).sum + L.countP p
 | [] => rfl
 | a :: L => by
  rw [List.map_cons, List.map_cons, List.sum_cons, List.sum_cons, List.countP_cons, sum_add_ind f g p h L, h a]
  omega
theorem deg_sum {n : Nat} : ∀ l : List E, (∀ e ∈ l, Bk n e) → ((List.range n).map fun v : Nat => deg l v).sum = 2 * l.length
 | [], _ => by
  have : ((List.range n).map fun v : Nat => deg [] v) = List.replicate n 0 := List.eq_replicate_iff.2 ⟨by simp, fun b hb => by obtain ⟨x, _, rfl⟩ := List.mem_map.1 hb; rfl⟩
  rw [this]; simp
 | e :: l, hb => by
  have ih := deg_sum l fun x hx => hb x (List.mem_cons_of_mem _ hx)
  have he := hb e (List.mem_cons_self ..)
  unfold Bk at he
  rw [sum_add_ind (fun v : Nat => deg (e :: l) v) (fun v : Nat => deg l v) (fun v : Nat => tch v e) (fun v => by unfold deg; rw [List.countP_cons]), ih]
  have h1 : (List.range n).countP (fun v : Nat => tch v e) = 2 := by
   have h2 := sz_mod n (fun x => x == e.1) fun x => x == e.2
   have h3 : sz n (int (fun x => x == e.1) fun x => x == e.2) = 0 := sz_zero fun u hu => by
    unfold int
    rw [Bool.eq_false_iff]
    intro hc
    simp only [Bool.and_eq_true, beq_iff_eq] at hc
    omega
   rw [sz_one, sz_one, if_pos (by omega), if_pos (by omega), h3] at h2
   have h4 : sz n (uni (fun x => x == e.1) fun x => x == e.2) = (List.range n).countP (fun v : Nat => tch v e) := by
    unfold sz
    refine List.countP_congr fun u hu => ?_
    simp only [uni, tch, Bool.or_eq_true, beq_iff_eq]
    omega
   omega
  rw [h1, List.length_cons]; omega
theorem sum_ge {f : Nat → Nat} {p : Nat → Bool} : ∀ L : List Nat, (∀ v ∈ L, p v = true → 4 ≤ f v) → 4 * L.countP p ≤ (L.map f).sum
 | [], _ => Nat.le_refl _
 | a :: L, h => by
  have ih := sum_ge L fun v hv => h v (List.mem_cons_of_mem _ hv)
  have ha := h a (List.mem_cons_self ..)
  rw [List.map_cons, List.sum_cons, List.countP_cons]
  cases hp : p a
  ·simp; omega
  ·have := ha hp
   simp; omega
theorem Lam.small {n : Nat} {l : List E} (h : Lam n l) (hl : 2 ≤ l.length) : ∃ v : Nat, v < n ∧ (deg l v = 2 ∨ deg l v = 3) := by
 refine Classical.byContradiction fun hc => ?_
 have h1 : ∀ v ∈ List.range n, (fun v : Nat => used l v) v = true → 4 ≤ deg l (v : Int) := fun v hv hu => by
  have h2 := h.two hl (of_decide_eq_true hu)
  have h3 : ¬ (deg l v = 2 ∨ deg l v = 3) := fun h4 => hc ⟨v, List.mem_range.1 hv, h4⟩
  omega
 have h5 := sum_ge (List.range n) h1
 rw [deg_sum l h.bk] at h5
 have h6 := h.cnt
 unfold sz at h6
 omega
theorem Lam.left {n : Nat} {l : List E} (h : Lam n l) (hl : 2 ≤ l.length) {v : Int} (hv : 0 < deg l v) : (∀ w, w ≠ v → used l w = true → used (drp l v) w = true) ∧ used (drp l v) v = false ∧ sz n (used (drp l v)) + 1 = sz n (used l) := by
 have h0 : used (drp l v) v = false := by
  refine decide_eq_false ?_
  unfold deg drp
  rw [List.countP_filter, List.countP_eq_zero.2 (fun e _ => by simp)]
  omega
 have h1 : ∀ w, w ≠ v → used l w = true → used (drp l v) w = true := fun w hw hu => by
  have h2 := h.two hl (of_decide_eq_true hu)
  have h3 := countP_split (tch w) (tch v) l
  have h4 := mult h.ind h.bk v w (Ne.symm hw)
  rw [List.countP_filter] at h3
  have h5 : l.countP (fun a => tch w a && tch v a) = l.countP (fun e => tch v e && tch w e) := List.countP_congr fun e _ => by rw [Bool.and_comm]
  refine decide_eq_true ?_
  unfold deg drp at *
  omega
 refine ⟨h1, h0, ?_⟩
 rw [← sz_sub (S := used l) (used_rng h.bk hv) (decide_eq_true hv)]
 congr 1
 refine sz_congr fun u hu => ?_
 by_cases e : (u : Int) = v
 ·rw [e, h0]; simp
 ·have e2 : ((u : Int) == v) = false := by simpa using e
  rw [e2, Bool.not_false, Bool.and_true, Bool.eq_iff_iff]
  refine ⟨fun h7 => ?_, h1 _ e⟩
  have h8 := of_decide_eq_true h7
  have h9 : deg (drp l v) u ≤ deg l u := List.Sublist.countP_le List.filter_sublist
  exact decide_eq_true (by omega)
theorem Lam.drop2 {n : Nat} {l : List E} (h : Lam n l) (hl : 2 ≤ l.length) {v : Int} (hd : deg l v = 2) : Lam n (drp l v) := by
 obtain ⟨h1, h2, h3⟩ := h.left hl (show 0 < deg l v by omega)
 have h4 := len_drp l v
 have h5 := h.cnt
 exact ⟨h.ind.sub List.filter_sublist, fun e he => h.bk e ((List.mem_filter.1 he).1), by omega⟩
theorem Lam.drop3 {n : Nat} {l : List E} (h : Lam n l) (hl : 2 ≤ l.length) {v : Int} (hd : deg l v = 3) {x : E} (hx : Bk n x) (hi : Ind n (x :: drp l v)) (ha : x.1 ≠ v ∧ used l x.1 = true) (hb : x.2 ≠ v ∧ used l x.2 = true) : Lam n (x :: drp l v) := by
 obtain ⟨h1, h2, h3⟩ := h.left hl (show 0 < deg l v by omega)
 have h4 := len_drp l v
 have h5 := h.cnt
 have h6 : sz n (used (x :: drp l v)) = sz n (used (drp l v)) := sz_congr fun u hu => by
  have e1 : deg (x :: drp l v) u = deg (drp l v) u + if tch u x = true then 1 else 0 := by unfold deg; rw [List.countP_cons]
  cases ht : tch (u : Int) x
  ·unfold used; rw [e1, ht]; simp
  ·have : used (drp l v) u = true := by
    simp only [tch, Bool.or_eq_true, beq_iff_eq] at ht
    rcases ht with ht | ht
    ·rw [← ht]; exact h1 _ ha.1 ha.2
    ·rw [← ht]; exact h1 _ hb.1 hb.2
   rw [this]
   exact decide_eq_true (by rw [e1, ht]; simp)
 refine ⟨hi, fun e he => ?_, by rw [h6, List.length_cons]; omega⟩
 rcases List.mem_cons.1 he with rfl | he
 ·exact hx
 ·exact h.bk e ((List.mem_filter.1 he).1)
theorem block {n : Nat} {l : List E} (hI : Ind n l) {x : E} (hx : Bk n x) (h : ¬ Ind n (x :: l)) : Spn n l x := by
 unfold Ind at h
 obtain ⟨S, hS⟩ := Classical.not_forall.1 h
 obtain ⟨h1, h2⟩ := Classical.not_imp.1 hS
 have e1 : ic (x :: l) S = ic l S + if inn S x = true then 1 else 0 := by unfold ic; rw [List.countP_cons]
 cases hi : inn S x
 ·rw [hi] at e1
  simp at e1
  have h3 := hI S (by omega)
  omega
 ·rw [hi] at e1
  simp at e1
  have h3 := sz_two hx hi
  by_cases h0 : 0 < ic l S
  ·have h4 := hI S h0
   exact ⟨S, ⟨h0, by omega⟩, hi⟩
  ·omega
theorem bk_mk {n : Nat} {a b : Int} (ha : 0 ≤ a ∧ a < n) (hb : 0 ≤ b ∧ b < n) (hab : a ≠ b) : Bk n (mkE a b) := by
 unfold Bk mkE; simp only; omega
theorem inn_mk {S : Int → Bool} {a b : Int} : inn S (mkE a b) = true ↔ S a = true ∧ S b = true := by
 unfold inn mkE
 simp only [Bool.and_eq_true]
 by_cases h : a ≤ b
 ·rw [Int.min_eq_left h, Int.max_eq_right h]
 ·rw [Int.min_eq_right (by omega), Int.max_eq_left (by omega)]
  exact And.comm
theorem meet {n : Nat} {l : List E} (hI : Ind n l) {S T : Int → Bool} (hS : Tgt n l S) (hT : Tgt n l T) {b : Int} (hb : 0 ≤ b ∧ b < n) (h1 : S b = true) (h2 : T b = true) : Tgt n l (uni S T) ∨ ∀ u : Nat, u < n → S u = true → T u = true → (u : Int) = b := by
 by_cases hc : ∀ u : Nat, u < n → S u = true → T u = true → (u : Int) = b
 ·exact .inr hc
 ·left
  obtain ⟨u, hu⟩ := Classical.not_forall.1 hc
  obtain ⟨hun, hu⟩ := Classical.not_imp.1 hu
  obtain ⟨hus, hu⟩ := Classical.not_imp.1 hu
  obtain ⟨hut, hne⟩ := Classical.not_imp.1 hu
  exact tgt_uni hI hS hT (bk_mk (n := n) (a := (u : Int)) (b := b) (by omega) hb hne) (inn_mk.2 ⟨hus, h1⟩) (inn_mk.2 ⟨hut, h2⟩)
theorem meet3 {n : Nat} {l : List E} (hI : Ind n l) (hbk : ∀ e ∈ l, Bk n e) {a b c : Int} (ha : 0 ≤ a ∧ a < n) (hb : 0 ≤ b ∧ b < n) (hc : 0 ≤ c ∧ c < n) (hab : a ≠ b) (hbc : b ≠ c) (hca : c ≠ a) (h1 : Spn n l (mkE a b)) (h2 : Spn n l (mkE b c)) (h3 : Spn n l (mkE c a)) :
  ∃ T, Tgt n l T ∧ T a = true ∧ T b = true ∧ T c = true := by
 obtain ⟨X, hX, iX⟩ := h1
 obtain ⟨Y, hY, iY⟩ := h2
 obtain ⟨Z, hZ, iZ⟩ := h3
 obtain ⟨xa, xb⟩ := inn_mk.1 iX
 obtain ⟨yb, yc⟩ := inn_mk.1 iY
 obtain ⟨zc, za⟩ := inn_mk.1 iZ
 rcases meet hI hX hY hb xb yb with t | mxy
 ·exact ⟨_, t, by simp [uni, xa], by simp [uni, xb], by simp [uni, yc]⟩
 rcases meet hI hY hZ hc yc zc with t | myz
 ·exact ⟨_, t, by simp [uni, za], by simp [uni, yb], by simp [uni, yc]⟩
 rcases meet hI hZ hX ha za xa with t | mzx
 ·exact ⟨_, t, by simp [uni, xa], by simp [uni, xb], by simp [uni, zc]⟩
 refine ⟨uni (uni X Y) Z, ?_, by simp [uni, xa], by simp [uni, xb], by simp [uni, yc]⟩
 have s1 := sz_mod n X Y
 have s2 := sz_mod n (uni X Y) Z
 have s3 : sz n (int X Y) ≤ 1 := by
  have : sz n (int X Y) ≤ sz n (fun x => x == b) := sz_mono fun u hu h => by
   simp only [int, Bool.and_eq_true] at h
   simpa using mxy u hu h.1 h.2
  have h9 := sz_one n b
  rw [if_pos hb] at h9
  omega
 have s4 : sz n (int (uni X Y) Z) ≤ 2 := by
  have : sz n (int (uni X Y) Z) ≤ sz n (uni (fun x => x == c) fun x => x == a) := sz_mono fun u hu h => by
   simp only [int, uni, Bool.and_eq_true, Bool.or_eq_true, beq_iff_eq] at h ⊢
   rcases h with ⟨h | h, hz⟩
   ·exact .inr (mzx u hu hz h)
   ·exact .inl (myz u hu h hz)
  have := sz_pair n c a
  omega
 have s5 : 1 ≤ sz n (int X Y) := by
  have : sz n (fun x => x == b) ≤ sz n (int X Y) := sz_mono fun u hu h => by
   have e : (u : Int) = b := by simpa using h
   rw [e]; simp [int, xb, yb]
  have h9 := sz_one n b
  rw [if_pos hb] at h9
  omega
 have s6 : 2 ≤ sz n (int (uni X Y) Z) := by
  have : sz n (uni (fun x => x == c) fun x => x == a) ≤ sz n (int (uni X Y) Z) := sz_mono fun u hu h => by
   simp only [uni, Bool.or_eq_true, beq_iff_eq] at h
   rcases h with e | e
   ·rw [e]; simp [int, uni, yc, zc]
   ·rw [e]; simp [int, uni, xa, za]
  have := sz_pair2 hc ha hca
  omega
 have no : ∀ {S T : Int → Bool} {q : Int}, (∀ u : Nat, u < n → S u = true → T u = true → (u : Int) = q) → ∀ e ∈ l, inn S e = true → inn T e = true → False := fun {S T q} hm e he k1 k2 => by
  have hbe := hbk e he
  obtain ⟨e1, e2⟩ := e
  unfold Bk at hbe
  simp only [inn, Bool.and_eq_true] at k1 k2 hbe
  obtain ⟨x, rfl⟩ := Int.eq_ofNat_of_zero_le hbe.1
  obtain ⟨y, rfl⟩ := Int.eq_ofNat_of_zero_le (show 0 ≤ e2 by omega)
  have := hm x (by omega) k1.1 k2.1
  have := hm y (by omega) k1.2 k2.2
  omega
 have i1 : ic l X + ic l Y + ic l Z ≤ ic l (uni (uni X Y) Z) := by
  have key : ∀ J : List E, (∀ e ∈ J, e ∈ l) → ic J X + ic J Y + ic J Z ≤ ic J (uni (uni X Y) Z) := by
   intro J
   induction J with
   | nil => intro _; exact Nat.le_refl _
   | cons e J ih =>
    intro hJ
    have ih := ih fun x hx => hJ x (List.mem_cons_of_mem _ hx)
    have hel := hJ e (List.mem_cons_self ..)
    have n1 := no mxy e hel
    have n2 := no myz e hel
    have n3 := no mzx e hel
    unfold ic at ih ⊢
    rw [List.countP_cons, List.countP_cons, List.countP_cons, List.countP_cons]
    have u1 : inn X e = true → inn (uni (uni X Y) Z) e = true := fun h => by
     simp only [inn, uni, Bool.and_eq_true, Bool.or_eq_true] at h ⊢; exact ⟨.inl (.inl h.1), .inl (.inl h.2)⟩
    have u2 : inn Y e = true → inn (uni (uni X Y) Z) e = true := fun h => by
     simp only [inn, uni, Bool.and_eq_true, Bool.or_eq_true] at h ⊢; exact ⟨.inl (.inr h.1), .inl (.inr h.2)⟩
    have u3 : inn Z e = true → inn (uni (uni X Y) Z) e = true := fun h => by
     simp only [inn, uni, Bool.and_eq_true, Bool.or_eq_true] at h ⊢; exact ⟨.inr h.1, .inr h.2⟩
    by_cases hx : inn X e = true
    ·have hy : inn Y e = false := Bool.eq_false_iff.2 fun h => n1 hx h
     have hz : inn Z e = false := Bool.eq_false_iff.2 fun h => n3 h hx
     rw [u1 hx, hx, hy, hz]; simp; omega
    ·by_cases hy : inn Y e = true
     ·have hz : inn Z e = false := Bool.eq_false_iff.2 fun h => n2 hy h
      have hx' : inn X e = false := Bool.eq_false_iff.2 hx
      rw [u2 hy, hx', hy, hz]; simp; omega
     ·by_cases hz : inn Z e = true
      ·have hx' : inn X e = false := Bool.eq_false_iff.2 hx
       have hy' : inn Y e = false := Bool.eq_false_iff.2 hy
       rw [u3 hz, hx', hy', hz]; simp; omega
      ·have hx' : inn X e = false := Bool.eq_false_iff.2 hx
       have hy' : inn Y e = false := Bool.eq_false_iff.2 hy
       have hz' : inn Z e = false := Bool.eq_false_iff.2 hz
       rw [hx', hy', hz']; simp; omega
  exact key l fun e he => he
 have h0 := hX.1
 have h4 := hI (uni (uni X Y) Z) (by omega)
 have := hX.2
 have := hY.2
 have := hZ.2
 exact ⟨by omega, by omega⟩
theorem oth_facts {n : Nat} {e : E} {v : Int} (hb : Bk n e) (ht : tch v e = true) : (0 ≤ oth e v ∧ oth e v < n) ∧ oth e v ≠ v ∧ e = mkE v (oth e v) ∧ tch (oth e v) e = true := by
 obtain ⟨x, y⟩ := e
 unfold Bk at hb
 simp only [tch, Bool.or_eq_true, beq_iff_eq] at ht
 simp only [oth, mkE, tch, Bool.or_eq_true, beq_iff_eq, Prod.mk.injEq] at hb ht ⊢
 omega
theorem Lam.three {n : Nat} {l : List E} (h : Lam n l) {v : Int} {e1 e2 e3 : E} (hf : l.filter (tch v) = [e1, e2, e3]) :
  Ind n (mkE (oth e1 v) (oth e2 v) :: drp l v) ∨ Ind n (mkE (oth e2 v) (oth e3 v) :: drp l v) ∨ Ind n (mkE (oth e3 v) (oth e1 v) :: drp l v) := by
 have hm : ∀ e ∈ [e1, e2, e3], e ∈ l ∧ tch v e = true := fun e he => by rw [← hf] at he; exact List.mem_filter.1 he
 obtain ⟨m1, t1⟩ := hm e1 (by simp)
 obtain ⟨m2, t2⟩ := hm e2 (by simp)
 obtain ⟨m3, t3⟩ := hm e3 (by simp)
 obtain ⟨r1, n1, q1, k1⟩ := oth_facts (h.bk _ m1) t1
 obtain ⟨r2, n2, q2, k2⟩ := oth_facts (h.bk _ m2) t2
 obtain ⟨r3, n3, q3, k3⟩ := oth_facts (h.bk _ m3) t3
 have hv := used_rng h.bk (show 0 < deg l v by unfold deg; rw [List.countP_eq_length_filter, hf]; simp)
 have hne : ∀ w, w ≠ v → ([e1, e2, e3].countP (tch w)) ≤ 1 := fun w hw => by
  have := mult h.ind h.bk v w (Ne.symm hw)
  rw [← hf, List.countP_filter]
  have h5 : l.countP (fun a => tch w a && tch v a) = l.countP (fun e => tch v e && tch w e) := List.countP_congr fun e _ => by rw [Bool.and_comm]
  omega
 have d12 : oth e1 v ≠ oth e2 v := fun e => by
  have := hne _ n1
  have k2' : tch (oth e1 v) e2 = true := by rw [e]; exact k2
  simp only [List.countP_cons, k1, k2'] at this
  simp at this <;> omega
 have d23 : oth e2 v ≠ oth e3 v := fun e => by
  have := hne _ n2
  have k2' : tch (oth e2 v) e3 = true := by rw [e]; exact k3
  simp only [List.countP_cons, k2, k2'] at this
  simp at this <;> omega
 have d31 : oth e3 v ≠ oth e1 v := fun e => by
  have := hne _ n3
  have k2' : tch (oth e3 v) e1 = true := by rw [e]; exact k1
  simp only [List.countP_cons, k3, k2'] at this
  simp at this <;> omega
 have hI : Ind n (drp l v) := h.ind.sub List.filter_sublist
 have hbk : ∀ e ∈ drp l v, Bk n e := fun e he => h.bk e ((List.mem_filter.1 he).1)
 refine Classical.byContradiction fun hc => ?_
 have c1 : ¬ Ind n (mkE (oth e1 v) (oth e2 v) :: drp l v) := fun h1 => hc (.inl h1)
 have c2 : ¬ Ind n (mkE (oth e2 v) (oth e3 v) :: drp l v) := fun h1 => hc (.inr (.inl h1))
 have c3 : ¬ Ind n (mkE (oth e3 v) (oth e1 v) :: drp l v) := fun h1 => hc (.inr (.inr h1))
 obtain ⟨T, hT, ta, tb, tc⟩ := meet3 hI hbk r1 r2 r3 d12 d23 d31 (block hI (bk_mk r1 r2 d12) c1) (block hI (bk_mk r2 r3 d23) c2) (block hI (bk_mk r3 r1 d31) c3)
 -- the set with v
 have e1' : ic l (uni T fun x => x == v) = 3 + ic (drp l v) (uni T fun x => x == v) := by
  unfold ic drp
  rw [countP_split (inn (uni T fun x => x == v)) (tch v) l, hf]
  congr 1
  have key : ∀ e : E, Bk n e → tch v e = true → T (oth e v) = true → inn (uni T fun x => x == v) e = true := fun e hb ht hT' => by
   obtain ⟨_, _, q, _⟩ := oth_facts hb ht
   rw [q, inn_mk]
   exact ⟨by simp [uni], by simp [uni, hT']⟩
  simp only [List.countP_cons, key e1 (h.bk _ m1) t1 ta, key e2 (h.bk _ m2) t2 tb, key e3 (h.bk _ m3) t3 tc]
  simp
 have e2' : ic (drp l v) T ≤ ic (drp l v) (uni T fun x => x == v) := ic_mono fun e he hi => by
  simp only [inn, uni, Bool.and_eq_true, Bool.or_eq_true] at hi ⊢
  exact ⟨.inl hi.1, .inl hi.2⟩
 have e3' : sz n (uni T fun x => x == v) ≤ sz n T + 1 := by
  have h1 := sz_mod n T fun x => x == v
  have h2 := sz_one n v
  rw [if_pos hv] at h2
  omega
 have e4 := h.ind (uni T fun x => x == v) (by omega)
 have e5 := hT.2
 omega
end Mtr

set_option linter.unusedSimpArgs false
set_option linter.unusedVariables false
namespace Mtr
theorem deg_zero {J : List E} {v : Int} (h : deg J v = 0) : ∀ e ∈ J, e.1 ≠ v ∧ e.2 ≠ v := fun e he => by
 unfold deg at h
 have := List.countP_eq_zero.1 h e he
 simp [tch] at this
 exact this
def wo (S : Int → Bool) (v : Int) : Int → Bool := fun x => S x && !(x == v)
theorem ic_wo {J : List E} {v : Int} (h : deg J v = 0) (S : Int → Bool) : ic J (wo S v) = ic J S := by
 unfold ic
 refine List.countP_congr fun e he => ?_
 obtain ⟨h1, h2⟩ := deg_zero h e he
 have e1 : (e.1 == v) = false := by simpa using h1
 have e2 : (e.2 == v) = false := by simpa using h2
 unfold inn wo
 simp only [e1, e2, Bool.not_false, Bool.and_true]
theorem ic_star (K : List Int) (v : Int) (S : Int → Bool) : ic (K.map (mkE v)) S = if S v = true then K.countP S else 0 := by
 induction K with
 | nil => simp [ic]
 | cons a K ih =>
  unfold ic at ih ⊢
  rw [List.map_cons, List.countP_cons, ih, List.countP_cons]
  by_cases hv : S v = true
  ·rw [if_pos hv, if_pos hv]
   by_cases ha : S a = true
   ·rw [if_pos ha, if_pos (inn_mk.2 ⟨hv, ha⟩)]
   ·rw [if_neg ha, if_neg (fun h => ha (inn_mk.1 h).2)]
  ·rw [if_neg hv, if_neg hv, if_neg (fun h => hv (inn_mk.1 h).1)]
theorem Ind.star {n : Nat} {J : List E} {v : Int} {K : List Int} (hJ : Ind n J) (h0 : deg J v = 0) (hv : 0 ≤ v ∧ v < n) (hK : v ∉ K) (H : ∀ S : Int → Bool, S v = false → 0 < K.countP S + ic J S → K.countP S + ic J S + 1 ≤ 2 * sz n S) : Ind n (K.map (mkE v) ++ J) := by
 intro S hS
 have e1 : ic (K.map (mkE v) ++ J) S = ic (K.map (mkE v)) S + ic J S := List.countP_append
 rw [e1, ic_star] at hS ⊢
 by_cases hvS : S v = true
 ·rw [if_pos hvS] at hS ⊢
  have h1 := H (wo S v) (by unfold wo; simp)
  have h2 : K.countP (wo S v) = K.countP S := List.countP_congr fun x hx => by
   have : (x == v) = false := by
    rw [beq_eq_false_iff_ne]; rintro rfl; exact hK hx
   unfold wo; simp [this]
  rw [h2, ic_wo h0] at h1
  have h3 : sz n (wo S v) + 1 = sz n S := sz_sub hv hvS
  have := h1 hS
  omega
 ·rw [if_neg hvS, Nat.zero_add] at hS ⊢
  exact hJ S hS
theorem one_le {n : Nat} {S : Int → Bool} {a : Int} (ha : 0 ≤ a ∧ a < n) (h : S a = true) : 1 ≤ sz n S := by
 have h1 : sz n (fun x => x == a) = 1 := by rw [sz_one, if_pos ha]
 rw [← h1]
 refine sz_mono fun v hv e => ?_
 have : (v : Int) = a := by simpa using e
 rw [this]; exact h
theorem two_le {n : Nat} {S : Int → Bool} {a b : Int} (ha : 0 ≤ a ∧ a < n) (hb : 0 ≤ b ∧ b < n) (hab : a ≠ b) (h1 : S a = true) (h2 : S b = true) : 2 ≤ sz n S := by
 rw [← sz_pair2 ha hb hab]
 refine sz_mono fun v hv e => ?_
 unfold uni at e
 simp only [Bool.or_eq_true, beq_iff_eq] at e
 rcases e with e | e <;> (rw [e]; assumption)
theorem Ind.two {n : Nat} {J : List E} {v a b : Int} (hJ : Ind n J) (h0 : deg J v = 0) (hv : 0 ≤ v ∧ v < n) (ha : 0 ≤ a ∧ a < n) (hb : 0 ≤ b ∧ b < n) (h1 : v ≠ a) (h2 : v ≠ b) (h3 : a ≠ b) : Ind n (mkE v a :: mkE v b :: J) := by
 refine hJ.star (K := [a, b]) h0 hv (by simp [h1, h2]) fun S _ hp => ?_
 have hJS := hJ S
 have k1 := fun h => one_le (S := S) ha h
 have k2 := fun h => one_le (S := S) hb h
 have k3 := fun h h' => two_le (S := S) ha hb h3 h h'
 rw [List.countP_cons, List.countP_cons, List.countP_nil] at hp ⊢
 cases e1 : S a <;> cases e2 : S b <;> simp only [e1, e2, if_true, if_false, Bool.false_eq_true] at hp k1 k2 k3 ⊢
 ·omega
 ·have := k2 trivial; omega
 ·have := k1 trivial; omega
 ·have := k3 trivial trivial; omega
theorem Ind.three {n : Nat} {J : List E} {v a b c : Int} (hJ : Ind n (mkE a b :: J)) (h0 : deg J v = 0) (hv : 0 ≤ v ∧ v < n) (ha : 0 ≤ a ∧ a < n) (hb : 0 ≤ b ∧ b < n) (hc : 0 ≤ c ∧ c < n) (h1 : v ≠ a) (h2 : v ≠ b) (h3 : v ≠ c) (h4 : a ≠ b) (h5 : a ≠ c) (h6 : b ≠ c) : Ind n (mkE v a :: mkE v b :: mkE v c :: J) := by
 have hJ' : Ind n J := hJ.sub (List.sublist_cons_self _ _)
 refine hJ'.star (K := [a, b, c]) h0 hv (by simp [h1, h2, h3]) fun S _ hp => ?_
 have hJS := hJ' S
 have hJS2 := hJ S
 have e0 : ic (mkE a b :: J) S = ic J S + if inn S (mkE a b) = true then 1 else 0 := List.countP_cons
 have k1 := fun h => one_le (S := S) ha h
 have k2 := fun h => one_le (S := S) hb h
 have k3 := fun h => one_le (S := S) hc h
 have k4 := fun h h' => two_le (S := S) ha hb h4 h h'
 have k5 := fun h h' => two_le (S := S) ha hc h5 h h'
 have k6 := fun h h' => two_le (S := S) hb hc h6 h h'
 have e3 : (inn S (mkE a b) = true) = (S a = true ∧ S b = true) := propext inn_mk
 rw [e0] at hJS2
 simp only [e3] at hJS2
 rw [List.countP_cons, List.countP_cons, List.countP_cons, List.countP_nil] at hp ⊢
 cases ea : S a <;> cases eb : S b <;> cases ec : S c <;> simp only [ea, eb, ec, if_true, if_false, Bool.false_eq_true, and_self, and_true, and_false, false_and, true_and, Nat.add_zero] at hp k1 k2 k3 k4 k5 k6 hJS2 ⊢
 ·omega
 ·have := k3 trivial; omega
 ·have := k2 trivial; omega
 ·have := k6 trivial trivial; omega
 ·have := k1 trivial; omega
 ·have := k5 trivial trivial; omega
 ·have := k4 trivial trivial; omega
 ·omega
theorem Ind.nil (n : Nat) : Ind n [] := fun S h => by simp [ic] at h
theorem Ind.one {n : Nat} {x : E} (hx : Bk n x) : Ind n [x] := fun S h => by
 unfold ic at h ⊢
 rw [List.countP_cons, List.countP_nil] at h ⊢
 split at h
 ·rename_i hi
  rw [if_pos hi]
  have := sz_two hx hi
  omega
 ·omega
theorem Lam.of {n : Nat} {l : List E} (hI : Ind n l) (hb : ∀ e ∈ l, Bk n e) (h0 : 0 < l.length) (hc : l.length + 3 = 2 * n) : Lam n l := by
 refine ⟨hI, hb, ?_⟩
 have h1 : ic l (used l) = l.length := by
  unfold ic
  rw [List.countP_eq_length]
  intro e he
  unfold inn
  rw [(used_ends he).1, (used_ends he).2]; rfl
 have h2 := hI (used l) (by omega)
 have h3 := sz_le n (used l)
 omega
end Mtr

