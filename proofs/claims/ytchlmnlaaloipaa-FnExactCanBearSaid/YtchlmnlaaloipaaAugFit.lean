/- The matrix of bars and load, of which CanBear asks the null space, is within the bounds of the elimination. No condition. -/
import Derived.Test.YtchlmnlaaloipaaSts
import Derived.Test.YtchlmnlaaloipaaVec
namespace Gr
set_option linter.unusedVariables false
def sumN : Nat → (Nat → Int) → Int
  | 0, _ => 0
  | n + 1, f => sumN n f + f n
theorem dt_tr0 (P : Nat) (g : Nat → Int) : dt (2 * P) tr0 g = sumN P fun i => g (2 * i) := by
  induction P with
  | zero => rfl
  | succ P ih =>
    show dt (2 * P + 1 + 1) tr0 g = _
    simp only [dt, sumN, ih, tr0_even, tr0_odd]
    omega
theorem dt_tr1 (P : Nat) (g : Nat → Int) : dt (2 * P) tr1 g = sumN P fun i => g (2 * i + 1) := by
  induction P with
  | zero => rfl
  | succ P ih =>
    show dt (2 * P + 1 + 1) tr1 g = _
    simp only [dt, sumN, ih, tr1_even, tr1_odd]
    omega
theorem sumN_lin (n : Nat) (a b : Int) (f : Nat → Int) : sumN n (fun i => a * f i - b) = a * sumN n f - n * b := by
  induction n with
  | zero => simp [sumN]
  | succ n ih => simp only [sumN, ih, Int.mul_add, Int.natCast_succ, Int.add_mul, Int.one_mul]; omega
theorem sumN_neg (n : Nat) (f : Nat → Int) : sumN n (fun i => -f i) = -sumN n f := by
  induction n with
  | zero => rfl
  | succ n ih => simp only [sumN, ih]; omega
/-- the turn about the middle, made whole -/
def rotF (P : Nat) (x y : Nat → Int) (k : Nat) : Int := if k % 2 = 0 then -((P : Int) * y (k / 2) - sumN P y) else (P : Int) * x (k / 2) - sumN P x
theorem rot_even (P : Nat) (x y : Nat → Int) (i : Nat) : rotF P x y (2 * i) = -((P : Int) * y i - sumN P y) := by
  unfold rotF; rw [if_pos (by omega), show 2 * i / 2 = i by omega]
theorem rot_odd (P : Nat) (x y : Nat → Int) (i : Nat) : rotF P x y (2 * i + 1) = (P : Int) * x i - sumN P x := by
  unfold rotF; rw [if_neg (by omega), show (2 * i + 1) / 2 = i by omega]
theorem rot_tr0 (P : Nat) (x y : Nat → Int) : dt (2 * P) tr0 (rotF P x y) = 0 := by
  rw [dt_tr0]
  simp only [rot_even]
  rw [sumN_neg, sumN_lin]; omega
theorem rot_tr1 (P : Nat) (x y : Nat → Int) : dt (2 * P) tr1 (rotF P x y) = 0 := by
  rw [dt_tr1]
  simp only [rot_odd]
  rw [sumN_lin]; omega
theorem rot_pos {P : Nat} {x y : Nat → Int} {i j : Nat} (hi : i < P) (hj : j < P) (hne : x i ≠ x j ∨ y i ≠ y j) : 0 < sq (2 * P) (rotF P x y) := by
  have h0 := sq_nonneg (2 * P) (rotF P x y)
  refine Int.lt_iff_le_and_ne.2 ⟨h0, fun he => ?_⟩
  have hz : ∀ k, k < 2 * P → rotF P x y k = 0 := fun k hk => by
    have h1 := sq_at hk (rotF P x y)
    have h2 := mul_self_nonneg' (rotF P x y k)
    have h3 : rotF P x y k * rotF P x y k = 0 := by omega
    rcases Int.mul_eq_zero.1 h3 with h | h <;> exact h
  have e1 := hz (2 * i) (by omega)
  have e2 := hz (2 * j) (by omega)
  have e3 := hz (2 * i + 1) (by omega)
  have e4 := hz (2 * j + 1) (by omega)
  rw [rot_even] at e1 e2
  rw [rot_odd] at e3 e4
  have hP : (P : Int) ≠ 0 := by omega
  have f1 : (P : Int) * y i = P * y j := by omega
  have f2 : (P : Int) * x i = P * x j := by omega
  have g1 := Int.eq_of_mul_eq_mul_left hP f1
  have g2 := Int.eq_of_mul_eq_mul_left hP f2
  omega
theorem sq_le {n : Nat} {f : Nat → Int} {b : Int} (h : ∀ k, k < n → f k * f k ≤ b) : sq n f ≤ n * b := by
  induction n with
  | zero => simp [sq]
  | succ n ih =>
    have h1 := ih fun k hk => h k (by omega)
    have h2 := h n (by omega)
    simp only [sq, Int.natCast_succ, Int.add_mul, Int.one_mul]
    omega
end Gr
namespace Go.Proofs.Ytchlmnlaaloipaa
open Go.RowKit Gr
set_option maxRecDepth 100000
set_option linter.unusedVariables false
set_option linter.unusedSimpArgs false

theorem isFw_apart {p : Int} {l : List BarT} {q : List PlaceT} (h : isFwB (p, l, q) = true) {x : BarT} (hx : x ∈ l) : plAt q x.1.toNat ≠ plAt q x.2.toNat := by
  obtain ⟨_, hq, _, hg, _⟩ := isFw_facts h
  obtain ⟨j, hj⟩ := List.getElem?_of_mem hx
  obtain ⟨a1, a2, a3⟩ := isGraphB_bar hg hj
  intro he
  have hb : fwBarAt l q j = false := by
    have l1 : x.1.toNat < q.length := by omega
    have l2 : x.2.toNat < q.length := by omega
    simp only [plAt, List.getElem?_eq_getElem l1, List.getElem?_eq_getElem l2, Option.getD_some] at he
    simp only [fwBarAt, hj, List.getElem?_eq_getElem l1, List.getElem?_eq_getElem l2, he]
    simp
  have := isFw_bar (p := p) (l := l) (q := q) (lt_of_getElem? hj) hb
  rw [h] at this; exact absurd this (by decide)

def augF (M : List (List Int)) (v : List Int) (j i : Nat) : Int := if i < M.length then entF M i j else v[j]?.getD 0
def augL (M : List (List Int)) (m : Nat) (v : List Int) : List (List Int) := (List.range m).map fun j => rowL (M.length + 1) (augF M v j)
theorem augL_length (M : List (List Int)) (m : Nat) (v : List Int) : (augL M m v).length = m := by simp [augL]
theorem augL_get {M : List (List Int)} {m j : Nat} {v : List Int} (h : j < m) : (augL M m v)[j]? = some (rowL (M.length + 1) (augF M v j)) := by simp [augL, h]
theorem rot_rig {p : Int} {l : List BarT} {q : List PlaceT} (h : isFwB (p, l, q) = true) {x : BarT} (hx : x ∈ l) :
    dt (2 * p.toNat) (rotF p.toNat (fun i => (plAt q i).1) (fun i => (plAt q i).2)) (rigF q x) = 0 := by
  obtain ⟨_, _, _, h4, _⟩ := isFw_facts h
  obtain ⟨i, hi⟩ := List.getElem?_of_mem hx
  obtain ⟨a1, a2, a3⟩ := isGraphB_bar h4 hi
  have n1 : x.1.toNat < x.2.toNat := by omega
  have n2 : x.2.toNat < p.toNat := by omega
  rw [rigF_eq q (x1 := (plAt q x.1.toNat).1) (y1 := (plAt q x.1.toNat).2) (x2 := (plAt q x.2.toNat).1) (y2 := (plAt q x.2.toNat).2) rfl rfl]
  generalize x.1.toNat = i1 at *
  generalize x.2.toNat = i2 at *
  generalize p.toNat = P at *
  rw [dt_upd (by omega), dt_upd (by omega), dt_upd (by omega), dt_upd (by omega), dt_zero, rot_even, rot_even, rot_odd, rot_odd]
  rw [if_neg (by omega), if_neg (by omega), if_neg (by omega), if_neg (by omega), if_neg (by omega), if_neg (by omega)]
  generalize sumN P _ = s
  generalize sumN P _ = t
  grind
theorem fit_aug {p : Int} {l : List BarT} {q : List PlaceT} (h : isFwB (p, l, q) = true) {v : List Int} (hv : ∀ x ∈ v, -4 ≤ x ∧ x ≤ 4) : Fit (augL (rigM (p, l, q)) (2 * p.toNat) v) (l.length + 1) (64 ^ 9 * 192) := by
  have e : rigM (p, l, q) = l.map (rigRow p q) := by simp only [rigM, h]; rfl
  obtain ⟨⟨h1, h2⟩, h3, h4, h5, h6⟩ := isFw_facts h
  have hlen := rigM_len h
  have hrow : ∀ i, i < l.length → ∃ x, x ∈ l ∧ (rigM (p, l, q))[i]? = some (rowL (2 * p.toNat) (rigF q x)) := fun i hi => ⟨l[i], List.getElem_mem hi, by rw [e, List.getElem?_map, List.getElem?_eq_getElem hi]; rfl⟩
  have hcol : ∀ k, k < l.length + 1 → k ≠ l.length → ∃ x, x ∈ l ∧ ∀ i, i < 2 * p.toNat → entF (augL (rigM (p, l, q)) (2 * p.toNat) v) i k = rigF q x i := fun k hk hne => by
    obtain ⟨x, hx, hr⟩ := hrow k (by omega)
    refine ⟨x, hx, fun i hi => ?_⟩
    rw [entF_rowL (augL_get hi) (by omega)]
    unfold augF
    rw [if_pos (by omega), entF_rowL hr hi]
  have hlast : ∀ i, i < 2 * p.toNat → entF (augL (rigM (p, l, q)) (2 * p.toNat) v) i l.length = v[i]?.getD 0 := fun i hi => by
    rw [entF_rowL (augL_get hi) (by omega)]
    unfold augF
    rw [if_neg (by omega)]
  have hz : Gr.sq (2 * p.toNat) (fun i => entF (augL (rigM (p, l, q)) (2 * p.toNat) v) i l.length) ≤ 192 := by
    have h9 : Gr.sq (2 * p.toNat) (fun i => entF (augL (rigM (p, l, q)) (2 * p.toNat) v) i l.length) ≤ ((2 * p.toNat : Nat) : Int) * 16 := Gr.sq_le fun i hi => by
      rw [hlast i hi]
      rcases hvi : v[i]? with _ | x
      · simp
      · have := hv x (List.mem_of_getElem? hvi)
        exact sq4 this.1 this.2
    omega
  refine ⟨fun r hr => ?_, by rw [augL_length]; omega, by omega, by omega, ?_, by decide⟩
  · obtain ⟨j, _, rfl⟩ := List.mem_map.1 hr
    rw [rowL_length, hlen]
  · rw [augL_length]
    have hp9 : (1 : Int) ≤ 64 ^ 9 := by decide
    by_cases hl : l.length = 0
    · refine Bnd.mono (Bnd.byColsZ (z := l.length) (B := 1) (C := 192) (by decide) (by decide) (fun k hk hne => by omega) (fun _ => hz) [] (fun t ht => by simp at ht) List.Pairwise.nil (fun t ht => by simp at ht)) ?_
      rw [Int.one_pow]; decide
    · have hx0 : l[0] ∈ l := List.getElem_mem (by omega)
      have hap := isFw_apart h hx0
      obtain ⟨a1, a2, a3⟩ := isGraphB_bar h5 (List.getElem?_eq_getElem (show 0 < l.length by omega))
      refine Bnd.mono (Bnd.byColsZ (z := l.length) (B := 64) (C := 192) (by decide) (by decide) (fun k hk hne => ?_) (fun _ => hz) [tr0, tr1, rotF p.toNat (fun i => (plAt q i).1) (fun i => (plAt q i).2)] (fun t ht k hk hne => ?_) ?_ (fun t ht => ?_)) ?_
      · obtain ⟨x, hx, hr⟩ := hcol k hk hne
        rw [sq_ext fun i hi => hr i hi]
        exact (rig_sq h hx).1
      · obtain ⟨x, hx, hr⟩ := hcol k hk hne
        rw [dt_ext fun i hi => hr i hi]
        simp only [List.mem_cons, List.not_mem_nil, or_false] at ht
        rcases ht with rfl | rfl | rfl
        · exact (rig_sq h hx).2.1
        · exact (rig_sq h hx).2.2
        · exact rot_rig h hx
      · simp [tr_dt, rot_tr0, rot_tr1]
      · simp only [List.mem_cons, List.not_mem_nil, or_false] at ht
        rcases ht with rfl | rfl | rfl
        · have := sq_at (show 0 < 2 * p.toNat by omega) tr0
          have e2 : tr0 0 * tr0 0 = 1 := rfl
          omega
        · have := sq_at (show 1 < 2 * p.toNat by omega) tr1
          have e2 : tr1 1 * tr1 1 = 1 := rfl
          omega
        · refine rot_pos (i := (l[0]).1.toNat) (j := (l[0]).2.toNat) (by omega) (by omega) ?_
          rcases Classical.em ((plAt q (l[0]).1.toNat).1 = (plAt q (l[0]).2.toNat).1) with e1 | e1
          · right; intro e2; exact hap (Prod.ext e1 e2)
          · exact .inl e1
      · refine Int.mul_le_mul_of_nonneg_right ?_ (by decide)
        exact pow_mono (B := 64) (by decide) (show 2 * p.toNat - [tr0, tr1, rotF p.toNat (fun i => (plAt q i).1) (fun i => (plAt q i).2)].length ≤ 9 by simp; omega)
end Go.Proofs.Ytchlmnlaaloipaa
