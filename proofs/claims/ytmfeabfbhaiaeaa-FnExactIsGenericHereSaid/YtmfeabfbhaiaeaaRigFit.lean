/- The rigidity matrix is within the bounds of the elimination. No condition. -/
import Derived.Test.YtmfeabfbhaiaeaaRig2
namespace Gr
set_option linter.unusedVariables false
theorem dt_zero (n : Nat) (t : Nat → Int) : dt n t (fun _ => 0) = 0 := by
  induction n with
  | zero => rfl
  | succ n ih => simp only [dt, ih, Int.mul_zero, Int.add_zero]
theorem dt_ne {n p : Nat} (h : n ≤ p) (t f : Nat → Int) (v : Int) : dt n t (fun k => if k = p then v else f k) = dt n t f := by
  induction n with
  | zero => rfl
  | succ n ih => simp only [dt, ih (by omega), if_neg (show ¬ n = p by omega)]
theorem dt_upd {n p : Nat} (h : p < n) (t f : Nat → Int) (v : Int) : dt n t (fun k => if k = p then v else f k) = dt n t f - t p * f p + t p * v := by
  induction n with
  | zero => omega
  | succ n ih =>
    by_cases e : n = p
    · subst e
      simp only [dt, dt_ne (Nat.le_refl n), if_pos]
      omega
    · simp only [dt, ih (by omega), if_neg e]
      omega
theorem sq_zero (n : Nat) : sq n (fun _ => 0) = 0 := by
  induction n with
  | zero => rfl
  | succ n ih => simp only [sq, ih]; rfl
theorem sq_ne {n p : Nat} (h : n ≤ p) (f : Nat → Int) (v : Int) : sq n (fun k => if k = p then v else f k) = sq n f := by
  induction n with
  | zero => rfl
  | succ n ih => simp only [sq, ih (by omega), if_neg (show ¬ n = p by omega)]
theorem sq_upd {n p : Nat} (h : p < n) (f : Nat → Int) (v : Int) : sq n (fun k => if k = p then v else f k) = sq n f - f p * f p + v * v := by
  induction n with
  | zero => omega
  | succ n ih =>
    by_cases e : n = p
    · subst e
      simp only [sq, sq_ne (Nat.le_refl n), if_pos]
      omega
    · simp only [sq, ih (by omega), if_neg e]
      omega
theorem sq_ext {n : Nat} {f g : Nat → Int} (h : ∀ k, k < n → f k = g k) : sq n f = sq n g := by
  induction n with
  | zero => rfl
  | succ n ih => simp only [sq, ih (fun k hk => h k (by omega)), h n (by omega)]
theorem dt_ext {n : Nat} {t f g : Nat → Int} (h : ∀ k, k < n → f k = g k) : dt n t f = dt n t g := by
  induction n with
  | zero => rfl
  | succ n ih => simp only [dt, ih (fun k hk => h k (by omega)), h n (by omega)]
def tr0 (k : Nat) : Int := if k % 2 = 0 then 1 else 0
def tr1 (k : Nat) : Int := if k % 2 = 0 then 0 else 1
theorem tr0_even (k : Nat) : tr0 (2 * k) = 1 := by unfold tr0; rw [if_pos (by omega)]
theorem tr0_odd (k : Nat) : tr0 (2 * k + 1) = 0 := by unfold tr0; rw [if_neg (by omega)]
theorem tr1_even (k : Nat) : tr1 (2 * k) = 0 := by unfold tr1; rw [if_pos (by omega)]
theorem tr1_odd (k : Nat) : tr1 (2 * k + 1) = 1 := by unfold tr1; rw [if_neg (by omega)]
theorem sq_nonneg (n : Nat) (x : Nat → Int) : 0 ≤ sq n x := by
  induction n with
  | zero => exact Int.le_refl _
  | succ n ih => simp only [sq]; have := mul_self_nonneg' (x n); omega
theorem sq_at {n p : Nat} (h : p < n) (x : Nat → Int) : x p * x p ≤ sq n x := by
  induction n with
  | zero => omega
  | succ n ih =>
    simp only [sq]
    by_cases e : p = n
    · subst e; have := sq_nonneg p x; omega
    · have := ih (by omega); have := mul_self_nonneg' (x n); omega
theorem tr_dt (n : Nat) : dt n tr0 tr1 = 0 := by
  induction n with
  | zero => rfl
  | succ n ih =>
    simp only [dt, ih, tr0, tr1]
    by_cases e : n % 2 = 0
    · rw [if_pos e, if_pos e]; rfl
    · rw [if_neg e, if_neg e]; rfl
end Gr
namespace Go.Proofs.Ytmfeabfbhaiaeaa
open Go.RowKit Gr
set_option maxRecDepth 100000
set_option linter.unusedVariables false
set_option linter.unusedSimpArgs false

theorem sq4 {x : Int} (h1 : -4 ≤ x) (h2 : x ≤ 4) : x * x ≤ 16 := by
  have h : x = -4 ∨ x = -3 ∨ x = -2 ∨ x = -1 ∨ x = 0 ∨ x = 1 ∨ x = 2 ∨ x = 3 ∨ x = 4 := by omega
  rcases h with rfl | rfl | rfl | rfl | rfl | rfl | rfl | rfl | rfl <;> decide
theorem plAt_bd {p : Int} {l : List BarT} {q : List PlaceT} (h : isFwB (p, l, q) = true) {i : Nat} (hi : (i : Int) < p) : ∃ x y, plAt q i = (x, y) ∧ (0 ≤ x ∧ x ≤ 4) ∧ (0 ≤ y ∧ y ≤ 4) := by
  obtain ⟨_, h2, _, _, h5⟩ := isFw_facts h
  have hlt : i < q.length := by omega
  refine ⟨q[i].1, q[i].2, ?_, h5 i _ _ (List.getElem?_eq_getElem hlt)⟩
  simp only [plAt, List.getElem?_eq_getElem hlt, Option.getD_some]
theorem rigF_eq (q : List PlaceT) {x : BarT} {x1 y1 x2 y2 : Int} (h1 : plAt q x.1.toNat = (x1, y1)) (h2 : plAt q x.2.toNat = (x2, y2)) :
    rigF q x = fun k => if k = 2 * x.2.toNat + 1 then y2 - y1 else if k = 2 * x.2.toNat then x2 - x1 else if k = 2 * x.1.toNat + 1 then y1 - y2 else if k = 2 * x.1.toNat then x1 - x2 else 0 := by
  funext k; unfold rigF; rw [h1, h2]
theorem rig_sq {p : Int} {l : List BarT} {q : List PlaceT} (h : isFwB (p, l, q) = true) {x : BarT} (hx : x ∈ l) : Gr.sq (2 * p.toNat) (rigF q x) ≤ 64 ∧ dt (2 * p.toNat) tr0 (rigF q x) = 0 ∧ dt (2 * p.toNat) tr1 (rigF q x) = 0 := by
  obtain ⟨_, _, _, h4, _⟩ := isFw_facts h
  obtain ⟨i, hi⟩ := List.getElem?_of_mem hx
  obtain ⟨a1, a2, a3⟩ := isGraphB_bar h4 hi
  obtain ⟨x1, y1, e1, ⟨b1, b2⟩, b3, b4⟩ := plAt_bd h (i := x.1.toNat) (by omega)
  obtain ⟨x2, y2, e2, ⟨c1, c2⟩, c3, c4⟩ := plAt_bd h (i := x.2.toNat) (by omega)
  rw [rigF_eq q e1 e2]
  have n1 : x.1.toNat < x.2.toNat := by omega
  have n2 : x.2.toNat < p.toNat := by omega
  generalize x.1.toNat = i1 at *
  generalize x.2.toNat = i2 at *
  generalize p.toNat = P at *
  have s1 := sq4 (x := y2 - y1) (by omega) (by omega)
  have s2 := sq4 (x := x2 - x1) (by omega) (by omega)
  have s3 := sq4 (x := y1 - y2) (by omega) (by omega)
  have s4 := sq4 (x := x1 - x2) (by omega) (by omega)
  refine ⟨?_, ?_, ?_⟩
  · rw [sq_upd (by omega), sq_upd (by omega), sq_upd (by omega), sq_upd (by omega), sq_zero]
    rw [if_neg (by omega), if_neg (by omega), if_neg (by omega), if_neg (by omega), if_neg (by omega), if_neg (by omega)]
    omega
  · rw [dt_upd (by omega), dt_upd (by omega), dt_upd (by omega), dt_upd (by omega), dt_zero, tr0_even, tr0_even, tr0_odd, tr0_odd]
    rw [if_neg (by omega), if_neg (by omega), if_neg (by omega), if_neg (by omega), if_neg (by omega), if_neg (by omega)]
    omega
  · rw [dt_upd (by omega), dt_upd (by omega), dt_upd (by omega), dt_upd (by omega), dt_zero, tr1_even, tr1_even, tr1_odd, tr1_odd]
    rw [if_neg (by omega), if_neg (by omega), if_neg (by omega), if_neg (by omega), if_neg (by omega), if_neg (by omega)]
    omega
theorem entF_rowL {M : List (List Int)} {n i k : Nat} {f : Nat → Int} (h : M[i]? = some (rowL n f)) (hk : k < n) : entF M i k = f k := by
  simp only [entF, h, Option.getD_some, rowL_get hk]
theorem fit_rig {f : FwT} (h : isFwB f = true) : Fit (rigM f) (2 * f.1.toNat) (64 ^ 10) := by
  obtain ⟨p, l, q⟩ := f
  have e : rigM (p, l, q) = l.map (rigRow p q) := by simp only [rigM, h]; rfl
  obtain ⟨⟨h1, h2⟩, h3, h4, h5, h6⟩ := isFw_facts h
  dsimp only
  have hrow : ∀ i, i < l.length → ∃ x, x ∈ l ∧ (rigM (p, l, q))[i]? = some (rowL (2 * p.toNat) (rigF q x)) := fun i hi => ⟨l[i], List.getElem_mem hi, by rw [e, List.getElem?_map, List.getElem?_eq_getElem hi]; rfl⟩
  have hlen : (rigM (p, l, q)).length = l.length := by rw [e, List.length_map]
  refine ⟨fun r hr => ?_, by omega, by omega, by omega, ?_, by decide⟩
  · rw [e] at hr
    obtain ⟨x, _, rfl⟩ := List.mem_map.1 hr
    simp [rigRow, rowL_length]
  · refine Bnd.mono (Bnd.byRowsT (B := 64) (by decide) (fun i hi => ?_) [tr0, tr1] (fun t ht i hi => ?_) ?_ (fun t ht => ?_)) (pow_mono (B := 64) (by decide) (show 2 * p.toNat - [tr0, tr1].length ≤ 10 by simp; omega))
    · obtain ⟨x, hx, hr⟩ := hrow i (by omega)
      rw [sq_ext fun k hk => entF_rowL hr hk]
      exact (rig_sq h hx).1
    · obtain ⟨x, hx, hr⟩ := hrow i (by omega)
      rw [dt_ext fun k hk => entF_rowL hr hk]
      simp only [List.mem_cons, List.not_mem_nil, or_false] at ht
      rcases ht with rfl | rfl
      · exact (rig_sq h hx).2.1
      · exact (rig_sq h hx).2.2
    · simp [tr_dt]
    · simp only [List.mem_cons, List.not_mem_nil, or_false] at ht
      rcases ht with rfl | rfl
      · have := sq_at (show 0 < 2 * p.toNat by omega) tr0
        have e2 : tr0 0 * tr0 0 = 1 := rfl
        omega
      · have := sq_at (show 1 < 2 * p.toNat by omega) tr1
        have e2 : tr1 1 * tr1 1 = 1 := rfl
        omega
end Go.Proofs.Ytmfeabfbhaiaeaa
