/- Plain mathematics: the two eliminations, that they go the same way, and bounds on the numbers that arise. No condition. -/
import Derived.Test.YtfbmpkdjhhcnpaaMoP17
namespace Gr
set_option linter.unusedVariables false
set_option linter.unusedSimpArgs false

/-- the state of an elimination: the numbers, the columns, the last divisor -/
structure ES where
  F : Nat → Nat → Int
  P : List Nat
  d : Int
def findF (F : Nat → Nat → Int) (m c p : Nat) : Nat := if p < m then (if F p c = 0 then findF F m c (p + 1) else p) else p
termination_by m - p
theorem findF_ge (F : Nat → Nat → Int) (m c p : Nat) : p ≤ findF F m c p := by
  fun_induction findF F m c p <;> omega
theorem findF_le {F : Nat → Nat → Int} {m c p : Nat} (h : p ≤ m) : findF F m c p ≤ m := by
  fun_induction findF F m c p <;> omega
theorem findF_ne {F : Nat → Nat → Int} {m c p : Nat} (h : findF F m c p < m) : F (findF F m c p) c ≠ 0 := by
  fun_induction findF F m c p
  · rename_i ih; exact ih h
  · assumption
  · omega
def swapF (F : Nat → Nat → Int) (r p : Nat) : Nat → Nat → Int := fun i => if i = r then F p else if i = p then F r else F i
def elimF (F : Nat → Nat → Int) (r c : Nat) (d : Int) : Nat → Nat → Int := fun i k => if i = r then F r k else (F r c * F i k - F i c * F r k).tdiv d
def stepF (m c : Nat) (s : ES) : ES :=
  if s.P.length < m then
    (if findF s.F m c s.P.length < m then ⟨elimF (swapF s.F s.P.length (findF s.F m c s.P.length)) s.P.length c s.d, s.P ++ [c], s.F (findF s.F m c s.P.length) c⟩ else s)
  else s
def redF (m : Nat) (F : Nat → Nat → Int) : Nat → ES
  | 0 => ⟨F, [], 1⟩
  | c + 1 => stepF m c (redF m F c)

theorem rows_congr {X Y : Nat → Nat → Int} {r : Nat} (h : ∀ i, i < r → X i = Y i) : rows X r = rows Y r := by
  induction r with
  | zero => rfl
  | succ r ih => simp only [rows]; rw [h r (by omega), ih fun i hi => h i (by omega)]
theorem rows_length (X : Nat → Nat → Int) (r : Nat) : (rows X r).length = r := by
  induction r with
  | zero => rfl
  | succ r ih => simp only [rows, List.length_cons, ih]
theorem rows_mem {X : Nat → Nat → Int} {r : Nat} {x : Nat → Int} (h : x ∈ rows X r) : ∃ i, i < r ∧ x = X i := by
  induction r with
  | zero => simp [rows] at h
  | succ r ih =>
    simp only [rows, List.mem_cons] at h
    rcases h with h | h
    · exact ⟨r, by omega, h⟩
    · obtain ⟨i, hi, hx⟩ := ih h
      exact ⟨i, by omega, hx⟩

/-- what the state is, told by the rows of the beginning in another order -/
structure Inv (m n : Nat) (F0 : Nat → Nat → Int) (s : ES) (X : Nat → Nat → Int) : Prop where
  len : s.P.length ≤ m
  perm : ∃ f g : Nat → Nat, (∀ i, i < m → f i < m ∧ g (f i) = i ∧ X i = F0 (f i)) ∧ ∀ i, i < m → g i < m ∧ f (g i) = i
  cols : ∀ j ∈ s.P, j < n
  d : s.d = kf n s.P.reverse (wl n (rows X s.P.length))
  nz : s.d ≠ 0
  low : ∀ i, s.P.length ≤ i → i < m → ∀ k, k < n → s.F i k = ev n s.P.reverse (rows X s.P.length) (X i) k
  up : ∀ i, i < s.P.length → ∀ k, k < n → s.F i k = kf n ((s.P.drop (i + 1)).reverse ++ k :: (s.P.take i).reverse) (wl n (rows X s.P.length))

theorem Inv.start (m n : Nat) (F : Nat → Nat → Int) : Inv m n F ⟨F, [], 1⟩ F where
  len := Nat.zero_le _
  perm := ⟨id, id, fun i hi => ⟨hi, rfl, rfl⟩, fun i hi => ⟨hi, rfl⟩⟩
  cols := fun j hj => by simp at hj
  d := (sc_one n).symm
  nz := Int.one_ne_zero
  low := fun i _ hi k hk => (ev_nil hk).symm
  up := fun i hi => by simp at hi

theorem tdiv_exact {a b z : Int} (hb : b ≠ 0) (h : b * z = a) : a.tdiv b = z := by
  rw [← h, Int.mul_comm]; exact Int.mul_tdiv_cancel z hb

theorem Inv.step {m n : Nat} {F0 : Nat → Nat → Int} {s : ES} {X : Nat → Nat → Int} (h : Inv m n F0 s X) {c : Nat} (hc : c < n) : ∃ Y, Inv m n F0 (stepF m c s) Y := by
  unfold stepF
  by_cases h1 : s.P.length < m
  · rw [if_pos h1]
    by_cases h2 : findF s.F m c s.P.length < m
    · rw [if_pos h2]
      have hp := findF_ge s.F m c s.P.length
      have hne := findF_ne h2
      generalize findF s.F m c s.P.length = p at *
      have hR : rows (swapF X s.P.length p) s.P.length = rows X s.P.length := rows_congr fun i hi => by
        unfold swapF; rw [if_neg (by omega), if_neg (by omega)]
      have hXr : swapF X s.P.length p s.P.length = X p := by unfold swapF; rw [if_pos rfl]
      have hR' : rows (swapF X s.P.length p) (s.P.length + 1) = X p :: rows X s.P.length := by
        show swapF X s.P.length p s.P.length :: rows (swapF X s.P.length p) s.P.length = _
        rw [hXr, hR]
      have hlen : (s.P ++ [c]).length = s.P.length + 1 := by simp
      have hrev : (s.P ++ [c]).reverse = c :: s.P.reverse := by simp
      have hcl : ∀ j ∈ s.P.reverse, j < n := fun j hj => h.cols j (List.mem_reverse.1 hj)
      have hdne : kf n s.P.reverse (wl n (rows X s.P.length)) ≠ 0 := by rw [← h.d]; exact h.nz
      have hG : ∀ i, s.P.length ≤ i → i < m → ∀ k, k < n → swapF s.F s.P.length p i k = ev n s.P.reverse (rows X s.P.length) (swapF X s.P.length p i) k := by
        intro i hi him k hk
        unfold swapF
        by_cases e1 : i = s.P.length
        · rw [if_pos e1, if_pos e1]; exact h.low p hp h2 k hk
        · rw [if_neg e1, if_neg e1]
          by_cases e2 : i = p
          · rw [if_pos e2, if_pos e2]; exact h.low _ (Nat.le_refl _) h1 k hk
          · rw [if_neg e2, if_neg e2]; exact h.low i hi him k hk
      have hGu : ∀ i, i < s.P.length → swapF s.F s.P.length p i = s.F i := fun i hi => by
        unfold swapF; rw [if_neg (by omega), if_neg (by omega)]
      refine ⟨swapF X s.P.length p, ?_⟩
      constructor
      · show (s.P ++ [c]).length ≤ m
        rw [hlen]; omega
      · obtain ⟨f, g, hf, hg⟩ := h.perm
        refine ⟨fun i => if i = s.P.length then f p else if i = p then f s.P.length else f i, fun j => if g j = s.P.length then p else if g j = p then s.P.length else g j, fun i hi => ?_, fun i hi => ?_⟩
        · have a1 := hf i hi
          have a2 := hf p h2
          have a3 := hf _ h1
          by_cases e1 : i = s.P.length
          · subst e1
            simp only [if_true]
            refine ⟨a2.1, ?_, ?_⟩
            · rw [a2.2.1]
              by_cases e : p = s.P.length
              · rw [if_pos e, e]
              · rw [if_neg e, if_pos rfl]
            · rw [hXr]; exact a2.2.2
          · by_cases e2 : i = p
            · subst e2
              simp only [if_neg e1, if_true]
              refine ⟨a3.1, ?_, ?_⟩
              · rw [a3.2.1, if_pos rfl]
              · unfold swapF; rw [if_neg e1, if_pos rfl]; exact a3.2.2
            · simp only [if_neg e1, if_neg e2]
              refine ⟨a1.1, ?_, ?_⟩
              · rw [a1.2.1, if_neg e1, if_neg e2]
              · unfold swapF; rw [if_neg e1, if_neg e2]; exact a1.2.2
        · have b1 := hg i hi
          have a2 := hf p h2
          have a3 := hf _ h1
          by_cases e1 : g i = s.P.length
          · simp only [if_pos e1]
            refine ⟨h2, ?_⟩
            by_cases e : p = s.P.length
            · rw [if_pos e, e, ← e1]; exact b1.2
            · rw [if_neg e, if_pos trivial, ← e1]; exact b1.2
          · by_cases e2 : g i = p
            · simp only [if_neg e1, if_pos e2]
              refine ⟨h1, ?_⟩
              rw [if_pos trivial, ← e2]; exact b1.2
            · simp only [if_neg e1, if_neg e2]
              exact b1
      · intro j hj
        rcases List.mem_append.1 hj with hj | hj
        · exact h.cols j hj
        · simp at hj; omega
      · show s.F p c = kf n (s.P ++ [c]).reverse (wl n (rows (swapF X s.P.length p) (s.P ++ [c]).length))
        rw [hlen, hR', hrev, ← ev_d]
        exact h.low p hp h2 c hc
      · exact hne
      · intro i hi him k hk
        rw [show (s.P ++ [c]).length = s.P.length + 1 from hlen] at hi
        show elimF (swapF s.F s.P.length p) s.P.length c s.d i k = ev n (s.P ++ [c]).reverse (rows (swapF X s.P.length p) (s.P ++ [c]).length) (swapF X s.P.length p i) k
        rw [hlen, hR', hrev]
        unfold elimF
        rw [if_neg (by omega)]
        refine tdiv_exact h.nz ?_
        rw [hG _ (Nat.le_refl _) h1 c hc, hG _ (Nat.le_refl _) h1 k hk, hG i (by omega) him c hc, hG i (by omega) him k hk, hXr, h.d]
        exact ev_step hcl hc hk hdne
      · intro i hi k hk
        rw [show (s.P ++ [c]).length = s.P.length + 1 from hlen] at hi
        show elimF (swapF s.F s.P.length p) s.P.length c s.d i k = kf n (((s.P ++ [c]).drop (i + 1)).reverse ++ k :: ((s.P ++ [c]).take i).reverse) (wl n (rows (swapF X s.P.length p) (s.P ++ [c]).length))
        rw [hlen, hR']
        unfold elimF
        by_cases e : i = s.P.length
        · subst e
          rw [if_pos rfl, hG _ (Nat.le_refl _) h1 k hk, hXr]
          have e1 : (s.P ++ [c]).drop (s.P.length + 1) = [] := List.drop_eq_nil_of_le (by simp)
          have e2 : (s.P ++ [c]).take s.P.length = s.P := by simp
          rw [e1, e2]
          rfl
        · have hi' : i < s.P.length := by omega
          rw [if_neg e]
          refine tdiv_exact h.nz ?_
          have e1 : ((s.P ++ [c]).drop (i + 1)).reverse = c :: (s.P.drop (i + 1)).reverse := by
            rw [List.drop_append_of_le_length (by omega)]; simp
          have e2 : (s.P ++ [c]).take i = s.P.take i := by rw [List.take_append_of_le_length (by omega)]
          have e3 : s.P.reverse = (s.P.drop (i + 1)).reverse ++ s.P[i] :: (s.P.take i).reverse := by
            have e4 : s.P = s.P.take i ++ s.P[i] :: s.P.drop (i + 1) := by
              rw [← List.drop_eq_getElem_cons hi', List.take_append_drop]
            conv => lhs; rw [e4]
            simp
          rw [hG _ (Nat.le_refl _) h1 c hc, hG _ (Nat.le_refl _) h1 k hk, hGu i hi', h.up i hi' c hc, h.up i hi' k hk, hXr, h.d, e1, e2]
          rw [e3] at hcl ⊢
          exact nv_step hcl hc hk
    · rw [if_neg h2]; exact ⟨X, h⟩
  · rw [if_neg h1]; exact ⟨X, h⟩
theorem Inv.all {m n : Nat} (F : Nat → Nat → Int) {c : Nat} (hc : c ≤ n) : ∃ X, Inv m n F (redF m F c) X := by
  induction c with
  | zero => exact ⟨F, Inv.start m n F⟩
  | succ c ih =>
    obtain ⟨X, h⟩ := ih (by omega)
    exact h.step (by omega)

/-- a step, without the division -/
theorem elim_mul {m n : Nat} {F0 : Nat → Nat → Int} {s : ES} {X : Nat → Nat → Int} (h : Inv m n F0 s X) {c : Nat} (hc : c < n) {p : Nat} (hp : s.P.length ≤ p) (h2 : p < m) {i : Nat} (hi : i < m) (hir : i ≠ s.P.length) {k : Nat} (hk : k < n) :
    s.d * elimF (swapF s.F s.P.length p) s.P.length c s.d i k = swapF s.F s.P.length p s.P.length c * swapF s.F s.P.length p i k - swapF s.F s.P.length p i c * swapF s.F s.P.length p s.P.length k := by
  have h1 : s.P.length < m := by omega
  have hXr : swapF X s.P.length p s.P.length = X p := by unfold swapF; rw [if_pos rfl]
  have hcl : ∀ j ∈ s.P.reverse, j < n := fun j hj => h.cols j (List.mem_reverse.1 hj)
  have hdne : kf n s.P.reverse (wl n (rows X s.P.length)) ≠ 0 := by rw [← h.d]; exact h.nz
  have hG : ∀ i, s.P.length ≤ i → i < m → ∀ k, k < n → swapF s.F s.P.length p i k = ev n s.P.reverse (rows X s.P.length) (swapF X s.P.length p i) k := by
    intro i hi him k hk
    unfold swapF
    by_cases e1 : i = s.P.length
    · rw [if_pos e1, if_pos e1]; exact h.low p hp h2 k hk
    · rw [if_neg e1, if_neg e1]
      by_cases e2 : i = p
      · rw [if_pos e2, if_pos e2]; exact h.low _ (Nat.le_refl _) h1 k hk
      · rw [if_neg e2, if_neg e2]; exact h.low i hi him k hk
  have hGu : ∀ i, i < s.P.length → swapF s.F s.P.length p i = s.F i := fun i hi => by
    unfold swapF; rw [if_neg (by omega), if_neg (by omega)]
  unfold elimF
  rw [if_neg hir]
  by_cases hl : s.P.length ≤ i
  · have e := ev_step (x := swapF X s.P.length p i) (y := X p) hcl hc hk hdne
    rw [← h.d] at e
    have e2 : swapF s.F s.P.length p s.P.length c * swapF s.F s.P.length p i k - swapF s.F s.P.length p i c * swapF s.F s.P.length p s.P.length k = s.d * ev n (c :: s.P.reverse) (X p :: rows X s.P.length) (swapF X s.P.length p i) k := by
      rw [hG _ (Nat.le_refl _) h1 c hc, hG _ (Nat.le_refl _) h1 k hk, hG i hl hi c hc, hG i hl hi k hk, hXr]
      exact e.symm
    rw [e2, tdiv_exact h.nz rfl]
  · have hi' : i < s.P.length := by omega
    have e3 : s.P.reverse = (s.P.drop (i + 1)).reverse ++ s.P[i] :: (s.P.take i).reverse := by
      have e4 : s.P = s.P.take i ++ s.P[i] :: s.P.drop (i + 1) := by
        rw [← List.drop_eq_getElem_cons hi', List.take_append_drop]
      conv => lhs; rw [e4]
      simp
    have e2 : swapF s.F s.P.length p s.P.length c * swapF s.F s.P.length p i k - swapF s.F s.P.length p i c * swapF s.F s.P.length p s.P.length k = s.d * kf n (c :: ((s.P.drop (i + 1)).reverse ++ k :: (s.P.take i).reverse)) (wl n (X p :: rows X s.P.length)) := by
      rw [hG _ (Nat.le_refl _) h1 c hc, hG _ (Nat.le_refl _) h1 k hk, hGu i hi', h.up i hi' c hc, h.up i hi' k hk, hXr, h.d]
      rw [e3] at hcl ⊢
      exact (nv_step hcl hc hk).symm
    rw [e2, tdiv_exact h.nz rfl]

/-! ### primitive vectors -/
def pgF (f : Nat → Int) : Nat → Nat
  | 0 => 0
  | k + 1 => Nat.gcd (pgF f k) (f k).natAbs
def fsF (f : Nat → Int) : Nat → Int
  | 0 => 0
  | k + 1 => if fsF f k = 0 then f k else fsF f k
def denF (n : Nat) (f : Nat → Int) : Int := if fsF f n < 0 then -(pgF f n : Int) else pgF f n
def primF (n : Nat) (f : Nat → Int) (k : Nat) : Int := if pgF f n = 0 then f k else (f k).tdiv (denF n f)
theorem pgF_congr {f h : Nat → Int} {n : Nat} (e : ∀ k, k < n → f k = h k) : pgF f n = pgF h n := by
  induction n with
  | zero => rfl
  | succ n ih => simp only [pgF]; rw [ih fun k hk => e k (by omega), e n (by omega)]
theorem fsF_congr {f h : Nat → Int} {n : Nat} (e : ∀ k, k < n → f k = h k) : fsF f n = fsF h n := by
  induction n with
  | zero => rfl
  | succ n ih => simp only [fsF]; rw [ih fun k hk => e k (by omega), e n (by omega)]
theorem pgF_mul (c : Int) (f : Nat → Int) (n : Nat) : pgF (fun k => c * f k) n = c.natAbs * pgF f n := by
  induction n with
  | zero => simp [pgF]
  | succ n ih => simp only [pgF]; rw [ih, Int.natAbs_mul, Nat.gcd_mul_left]
theorem fsF_mul {c : Int} (hc : c ≠ 0) (f : Nat → Int) (n : Nat) : fsF (fun k => c * f k) n = c * fsF f n := by
  induction n with
  | zero => simp [fsF]
  | succ n ih =>
    simp only [fsF]; rw [ih]
    by_cases h : fsF f n = 0
    · rw [if_pos h, if_pos (by rw [h, Int.mul_zero])]
    · rw [if_neg h, if_neg (fun e => by rcases Int.mul_eq_zero.1 e with e | e; exact hc e; exact h e)]
theorem pgF_dvd (f : Nat → Int) {n k : Nat} (hk : k < n) : (pgF f n : Int) ∣ f k := by
  induction n with
  | zero => omega
  | succ n ih =>
    simp only [pgF]
    by_cases e : k = n
    · subst e; exact Int.ofNat_dvd_left.2 (Nat.gcd_dvd_right _ _)
    · exact Int.dvd_trans (Int.ofNat_dvd.2 (Nat.gcd_dvd_left _ _)) (ih (by omega))
theorem pgF_zero {f : Nat → Int} {n : Nat} : pgF f n = 0 ↔ ∀ k, k < n → f k = 0 := by
  induction n with
  | zero => simp [pgF]
  | succ n ih =>
    simp only [pgF, Nat.gcd_eq_zero_iff, ih, Int.natAbs_eq_zero]
    constructor
    · rintro ⟨h1, h2⟩ k hk
      by_cases e : k = n
      · subst e; exact h2
      · exact h1 k (by omega)
    · intro h; exact ⟨fun k hk => h k (by omega), h n (by omega)⟩
theorem fsF_zero {f : Nat → Int} {n : Nat} : fsF f n = 0 ↔ ∀ k, k < n → f k = 0 := by
  induction n with
  | zero => simp [fsF]
  | succ n ih =>
    simp only [fsF]
    constructor
    · intro h k hk
      by_cases e0 : fsF f n = 0
      · rw [if_pos e0] at h
        by_cases e : k = n
        · subst e; exact h
        · exact ih.1 e0 k (by omega)
      · rw [if_neg e0] at h; exact absurd h e0
    · intro h
      rw [if_pos (ih.2 fun k hk => h k (by omega))]; exact h n (by omega)
theorem denF_ne {n : Nat} {f : Nat → Int} (h : pgF f n ≠ 0) : denF n f ≠ 0 := by
  unfold denF; split <;> omega
theorem denF_dvd {n k : Nat} {f : Nat → Int} (hk : k < n) : denF n f ∣ f k := by
  unfold denF
  split
  · exact Int.neg_dvd.2 (pgF_dvd f hk)
  · exact pgF_dvd f hk
theorem denF_mul {n : Nat} {c : Int} (hc : c ≠ 0) {f : Nat → Int} (h : pgF f n ≠ 0) : denF n (fun k => c * f k) = c * denF n f := by
  unfold denF
  have hf : fsF f n ≠ 0 := fun e => h (pgF_zero.2 (fsF_zero.1 e))
  rw [pgF_mul, fsF_mul hc]
  rcases Int.lt_or_gt_of_ne hc with h1 | h1 <;> rcases Int.lt_or_gt_of_ne hf with h2 | h2
  · have := Int.mul_pos_of_neg_of_neg h1 h2
    rw [if_neg (by omega), if_pos h2, Int.natCast_mul, Int.ofNat_natAbs_of_nonpos (by omega)]; grind
  · have := Int.mul_neg_of_neg_of_pos h1 h2
    rw [if_pos this, if_neg (by omega), Int.natCast_mul, Int.ofNat_natAbs_of_nonpos (by omega)]; grind
  · have := Int.mul_neg_of_pos_of_neg h1 h2
    rw [if_pos this, if_pos h2, Int.natCast_mul, Int.natAbs_of_nonneg (by omega)]; grind
  · have := Int.mul_pos h1 h2
    rw [if_neg (by omega), if_neg (by omega), Int.natCast_mul, Int.natAbs_of_nonneg (by omega)]
theorem primF_congr {n : Nat} {f h : Nat → Int} (e : ∀ k, k < n → f k = h k) {k : Nat} (hk : k < n) : primF n f k = primF n h k := by
  unfold primF denF
  rw [pgF_congr e, fsF_congr e, e k hk]
theorem primF_scale {n : Nat} {f h : Nat → Int} {c : Int} (hc : c ≠ 0) (e : ∀ k, k < n → f k = c * h k) {k : Nat} (hk : k < n) : primF n f k = primF n h k := by
  rw [primF_congr e hk]
  unfold primF
  rw [pgF_mul]
  by_cases h0 : pgF h n = 0
  · rw [if_pos h0, if_pos (by rw [h0]; rfl)]
    show c * h k = h k
    rw [pgF_zero.1 h0 k hk, Int.mul_zero]
  · rw [if_neg h0, if_neg (fun e => by rcases Nat.mul_eq_zero.1 e with e | e; exact hc (Int.natAbs_eq_zero.1 e); exact h0 e), denF_mul hc h0]
    obtain ⟨z, hz⟩ := denF_dvd (f := h) hk
    have hd := denF_ne h0
    rw [hz, tdiv_exact hd rfl]
    refine tdiv_exact (fun e => ?_) (show c * denF n h * z = c * h k by rw [hz, Int.mul_assoc])
    rcases Int.mul_eq_zero.1 e with e | e
    · exact hc e
    · exact hd e
theorem primF_of (n : Nat) (f : Nat → Int) : ∃ a : Int, a ≠ 0 ∧ ∀ k, k < n → f k = a * primF n f k := by
  unfold primF
  by_cases h : pgF f n = 0
  · exact ⟨1, by decide, fun k _ => by rw [if_pos h, Int.one_mul]⟩
  · refine ⟨denF n f, denF_ne h, fun k hk => ?_⟩
    rw [if_neg h]
    obtain ⟨z, hz⟩ := denF_dvd (f := f) hk
    rw [hz, tdiv_exact (denF_ne h) rfl]
theorem primF_self {n : Nat} {f : Nat → Int} {k : Nat} (hk : k < n) : primF n (primF n f) k = primF n f k := by
  obtain ⟨a, ha, e⟩ := primF_of n f
  exact (primF_scale ha e hk).symm
theorem sq_of_scale {a x y : Int} (ha : a ≠ 0) (h : x = a * y) : y * y ≤ x * x := by
  have h1 : 1 ≤ a * a := by
    have := mul_self_nonneg' a
    rcases Int.lt_or_gt_of_ne ha with h | h
    · have := Int.mul_pos_of_neg_of_neg h h; omega
    · have := Int.mul_pos h h; omega
  have h2 := mul_self_nonneg' y
  have h3 : 1 * (y * y) ≤ a * a * (y * y) := Int.mul_le_mul_of_nonneg_right h1 h2
  rw [h]
  calc y * y = 1 * (y * y) := by omega
    _ ≤ a * a * (y * y) := h3
    _ = a * y * (a * y) := by grind

/-! ### the reference's elimination -/
structure SS where
  S : Nat → Nat → Int
  P : List Nat
def woF (a row : Nat → Int) (c k : Nat) : Int := a k * (row c).tdiv (Nat.gcd (a c).natAbs (row c).natAbs) - row k * (a c).tdiv (Nat.gcd (a c).natAbs (row c).natAbs)
def clearF (n : Nat) (S : Nat → Nat → Int) (r c : Nat) : Nat → Nat → Int := fun i => if i = r then S i else if S i c = 0 then S i else primF n (woF (S i) (S r) c)
def stepS (m n c : Nat) (s : SS) : SS :=
  if findF s.S m c s.P.length < m then ⟨clearF n (swapF s.S s.P.length (findF s.S m c s.P.length)) s.P.length c, s.P ++ [c]⟩ else s
def redS (m n : Nat) (F : Nat → Nat → Int) : Nat → SS
  | 0 => ⟨fun i => primF n (F i), []⟩
  | c + 1 => stepS m n c (redS m n F c)

theorem findF_congr {F S : Nat → Nat → Int} {m c : Nat} (h : ∀ i, i < m → (F i c = 0 ↔ S i c = 0)) (p : Nat) : findF F m c p = findF S m c p := by
  fun_induction findF F m c p
  · rename_i p h1 h2 ih
    rw [ih]
    conv => rhs; rw [findF]
    rw [if_pos h1, if_pos ((h _ h1).1 h2)]
  · rename_i p h1 h2
    rw [findF, if_pos h1, if_neg (fun e => h2 ((h _ h1).2 e))]
  · rename_i p h1
    rw [findF, if_neg h1]
theorem wo_prim {n c : Nat} (hc : c < n) {a row f g h : Nat → Int} {d : Int} (hd : d ≠ 0) (ha : ∀ k, k < n → a k = primF n f k) (hr : ∀ k, k < n → row k = primF n g k) (hgc : g c ≠ 0) (hne : a c ≠ 0)
    (e : ∀ k, k < n → d * h k = g c * f k - f c * g k) {k : Nat} (hk : k < n) : primF n (woF a row c) k = primF n h k := by
  obtain ⟨x, hx, ex⟩ := primF_of n f
  obtain ⟨y, hy, ey⟩ := primF_of n g
  have hrc : row c ≠ 0 := fun e0 => hgc (by rw [ey c hc, ← hr c hc, e0, Int.mul_zero])
  generalize hG : Nat.gcd (a c).natAbs (row c).natAbs = G
  have hG0 : G ≠ 0 := by rw [← hG]; intro e0; exact hne (Int.natAbs_eq_zero.1 (Nat.gcd_eq_zero_iff.1 e0).1)
  have hGi : (G : Int) ≠ 0 := by omega
  obtain ⟨u, hu⟩ : (G : Int) ∣ a c := by rw [← hG]; exact Int.ofNat_dvd_left.2 (Nat.gcd_dvd_left _ _)
  obtain ⟨v, hv⟩ : (G : Int) ∣ row c := by rw [← hG]; exact Int.ofNat_dvd_left.2 (Nat.gcd_dvd_right _ _)
  have hw : ∀ k, woF a row c k = a k * v - row k * u := fun k => by
    unfold woF
    rw [hG, hu, hv, tdiv_exact hGi rfl, tdiv_exact hGi rfl]
  have h1 : ∀ k, k < n → d * h k = (x * y * G) * woF a row c k := by
    intro k hk
    rw [e k hk, hw k, ex k hk, ex c hc, ey k hk, ey c hc, ← ha k hk, ← hr k hk, ← ha c hc, ← hr c hc, hu, hv]
    grind
  have h2 : x * y * (G : Int) ≠ 0 := fun e0 => by
    rcases Int.mul_eq_zero.1 e0 with e0 | e0
    · rcases Int.mul_eq_zero.1 e0 with e0 | e0
      · exact hx e0
      · exact hy e0
    · exact hGi e0
  rw [← primF_scale h2 h1 hk, primF_scale hd (fun _ _ => rfl) hk]

/-- both eliminations go the same way -/
theorem red_sim {m n : Nat} (F : Nat → Nat → Int) {c : Nat} (hc : c ≤ n) : (redS m n F c).P = (redF m F c).P ∧ ∀ i, i < m → ∀ k, k < n → (redS m n F c).S i k = primF n ((redF m F c).F i) k := by
  induction c with
  | zero => exact ⟨rfl, fun i _ k _ => rfl⟩
  | succ c ih =>
    obtain ⟨hP, hS⟩ := ih (by omega)
    obtain ⟨X, hI⟩ := Inv.all (m := m) (n := n) F (c := c) (by omega)
    simp only [redS, redF]
    generalize redF m F c = s at *
    generalize redS m n F c = t at *
    have hc' : c < n := by omega
    have hz : ∀ i, i < m → (s.F i c = 0 ↔ t.S i c = 0) := by
      intro i hi
      obtain ⟨a, ha, ea⟩ := primF_of n (s.F i)
      rw [hS i hi c hc', ea c hc']
      constructor
      · intro e0
        rcases Int.mul_eq_zero.1 e0 with e0 | e0
        · exact absurd e0 ha
        · exact e0
      · intro e0; rw [e0, Int.mul_zero]
    unfold stepF stepS
    rw [hP, ← findF_congr hz]
    by_cases h1 : s.P.length < m
    · rw [if_pos h1]
      by_cases h2 : findF s.F m c s.P.length < m
      · rw [if_pos h2, if_pos h2]
        have hp := findF_ge s.F m c s.P.length
        have hne := findF_ne h2
        generalize findF s.F m c s.P.length = p at *
        refine ⟨rfl, fun i hi k hk => ?_⟩
        have hsw : ∀ j, j < m → ∀ k, k < n → swapF t.S s.P.length p j k = primF n (swapF s.F s.P.length p j) k := by
          intro j hj k hk
          unfold swapF
          by_cases e1 : j = s.P.length
          · rw [if_pos e1, if_pos e1]; exact hS p h2 k hk
          · rw [if_neg e1, if_neg e1]
            by_cases e2 : j = p
            · rw [if_pos e2, if_pos e2]; exact hS _ h1 k hk
            · rw [if_neg e2, if_neg e2]; exact hS j hj k hk
        show clearF n (swapF t.S s.P.length p) s.P.length c i k = primF n (elimF (swapF s.F s.P.length p) s.P.length c s.d i) k
        unfold clearF
        by_cases e1 : i = s.P.length
        · subst e1
          rw [if_pos rfl, hsw _ h1 k hk]
          exact primF_congr (fun k hk => by unfold elimF; rw [if_pos rfl]) hk
        · rw [if_neg e1]
          have hm := fun k hk => elim_mul hI hc' hp h2 hi e1 (k := k) hk
          have hr : swapF s.F s.P.length p s.P.length c ≠ 0 := by unfold swapF; rw [if_pos rfl]; exact hne
          by_cases e2 : swapF t.S s.P.length p i c = 0
          · rw [if_pos e2, hsw i hi k hk]
            have e3 : swapF s.F s.P.length p i c = 0 := by
              obtain ⟨a, ha, ea⟩ := primF_of n (swapF s.F s.P.length p i)
              rw [ea c hc', ← hsw i hi c hc', e2, Int.mul_zero]
            rw [← primF_scale hr (fun k hk => rfl) hk]
            rw [← primF_scale (f := fun k => s.d * elimF (swapF s.F s.P.length p) s.P.length c s.d i k) hI.nz (fun k hk => rfl) hk]
            exact (primF_congr (fun k hk => by rw [hm k hk, e3]; omega) hk).symm
          · rw [if_neg e2]
            exact wo_prim hc' hI.nz (hsw i hi) (hsw _ h1) hr e2 (fun k hk => hm k hk) hk
      · rw [if_neg h2, if_neg h2]; exact ⟨hP, hS⟩
    · have h3 : ¬ findF s.F m c s.P.length < m := by have := findF_ge s.F m c s.P.length; omega
      rw [if_neg h1, if_neg h3]; exact ⟨hP, hS⟩

/-! ### sums over the first n numbers -/
def sm : Nat → (Nat → Int) → Int
  | 0, _ => 0
  | n + 1, h => sm n h + h n
theorem sm_congr {n : Nat} {f g : Nat → Int} (h : ∀ i, i < n → f i = g i) : sm n f = sm n g := by
  induction n with
  | zero => rfl
  | succ n ih => simp only [sm]; rw [ih fun i hi => h i (by omega), h n (by omega)]
theorem sm_zero {n : Nat} {f : Nat → Int} (h : ∀ i, i < n → f i = 0) : sm n f = 0 := by
  induction n with
  | zero => rfl
  | succ n ih => simp only [sm]; rw [ih fun i hi => h i (by omega), h n (by omega)]; rfl
theorem sm_add (n : Nat) (f g : Nat → Int) : sm n (fun i => f i + g i) = sm n f + sm n g := by
  induction n with
  | zero => rfl
  | succ n ih => simp only [sm, ih]; omega
theorem sm_swap (m n : Nat) (f : Nat → Nat → Int) : sm m (fun i => sm n fun j => f i j) = sm n fun j => sm m fun i => f i j := by
  induction m with
  | zero => exact (sm_zero fun _ _ => rfl).symm
  | succ m ih => simp only [sm]; rw [ih, ← sm_add]
theorem sm_single {n a : Nat} (h : a < n) (v : Int) : sm n (fun i => if i = a then v else 0) = v := by
  induction n with
  | zero => omega
  | succ n ih =>
    simp only [sm]
    by_cases e : n = a
    · subst e
      rw [if_pos rfl, sm_zero fun i hi => if_neg (by omega)]; omega
    · rw [if_neg e, ih (by omega)]; omega
theorem sm_perm {m : Nat} {f g : Nat → Nat} (hf : ∀ i, i < m → f i < m ∧ g (f i) = i) (hg : ∀ i, i < m → g i < m ∧ f (g i) = i) (h : Nat → Int) : sm m (fun i => h (f i)) = sm m h := by
  have h1 : sm m (fun i => h (f i)) = sm m fun i => sm m fun j => if i = g j then h j else 0 := sm_congr fun i hi => by
    rw [← sm_single (hf i hi).1 (h (f i))]
    refine sm_congr fun j hj => ?_
    by_cases e : j = f i
    · rw [if_pos e, if_pos (by rw [e]; exact (hf i hi).2.symm), e]
    · rw [if_neg e, if_neg (fun e2 => e (by rw [e2, (hg j hj).2]))]
  rw [h1, sm_swap]
  exact sm_congr fun j hj => sm_single (hg j hj).1 (h j)
theorem sm_le {n : Nat} {f g : Nat → Int} (h : ∀ i, i < n → f i ≤ g i) : sm n f ≤ sm n g := by
  induction n with
  | zero => exact Int.le_refl _
  | succ n ih => simp only [sm]; have := ih fun i hi => h i (by omega); have := h n (by omega); omega
theorem sq_sm (n : Nat) (x : Nat → Int) : sq n x = sm n fun k => x k * x k := by
  induction n with
  | zero => rfl
  | succ n ih => simp only [sq, sm, ih]
theorem dt_sm (n : Nat) (x y : Nat → Int) : dt n x y = sm n fun k => x k * y k := by
  induction n with
  | zero => rfl
  | succ n ih => simp only [dt, sm, ih]

/-! ### bounds on what arises -/
/-- the rows of X are those of F in another order -/
def Per (m : Nat) (F X : Nat → Nat → Int) : Prop := ∃ f g : Nat → Nat, (∀ i, i < m → f i < m ∧ g (f i) = i ∧ X i = F (f i)) ∧ ∀ i, i < m → g i < m ∧ f (g i) = i
theorem Per.swap {m : Nat} {F X : Nat → Nat → Int} (h : Per m F X) {r p : Nat} (h1 : r < m) (h2 : p < m) : Per m F (swapF X r p) := by
  obtain ⟨f, g, hf, hg⟩ := h
  refine ⟨fun i => if i = r then f p else if i = p then f r else f i, fun j => if g j = r then p else if g j = p then r else g j, fun i hi => ?_, fun i hi => ?_⟩
  · have a1 := hf i hi
    have a2 := hf p h2
    have a3 := hf r h1
    by_cases e1 : i = r
    · subst e1
      simp only [if_true]
      refine ⟨a2.1, ?_, by unfold swapF; rw [if_pos rfl]; exact a2.2.2⟩
      rw [a2.2.1]
      by_cases e : p = i
      · rw [if_pos e, e]
      · rw [if_neg e, if_pos rfl]
    · by_cases e2 : i = p
      · subst e2
        simp only [if_neg e1, if_true]
        refine ⟨a3.1, ?_, by unfold swapF; rw [if_neg e1, if_pos rfl]; exact a3.2.2⟩
        rw [a3.2.1, if_pos rfl]
      · simp only [if_neg e1, if_neg e2]
        refine ⟨a1.1, ?_, by unfold swapF; rw [if_neg e1, if_neg e2]; exact a1.2.2⟩
        rw [a1.2.1, if_neg e1, if_neg e2]
  · have b1 := hg i hi
    by_cases e1 : g i = r
    · simp only [if_pos e1]
      refine ⟨h2, ?_⟩
      by_cases e : p = r
      · rw [if_pos e, e, ← e1]; exact b1.2
      · rw [if_neg e, if_pos trivial, ← e1]; exact b1.2
    · by_cases e2 : g i = p
      · simp only [if_neg e1, if_pos e2]
        refine ⟨h1, ?_⟩
        rw [if_pos trivial, ← e2]; exact b1.2
      · simp only [if_neg e1, if_neg e2]
        exact b1
/-- the squares of all minors are at most B -/
def Bnd (m n : Nat) (F : Nat → Nat → Int) (B : Int) : Prop := ∀ X, Per m F X → ∀ c : List Nat, (∀ j ∈ c, j < n) → c.length ≤ m → kf n c (wl n (rows X c.length)) * kf n c (wl n (rows X c.length)) ≤ B
theorem Bnd.num {m n : Nat} {F : Nat → Nat → Int} {B : Int} (hB : Bnd m n F B) {s : ES} {X : Nat → Nat → Int} (h : Inv m n F s X) {i k : Nat} (hi : i < m) (hk : k < n) : s.F i k * s.F i k ≤ B := by
  by_cases hl : i < s.P.length
  · rw [h.up i hl k hk]
    have hlen : ((s.P.drop (i + 1)).reverse ++ k :: (s.P.take i).reverse).length = s.P.length := by simp; omega
    have := hB X h.perm ((s.P.drop (i + 1)).reverse ++ k :: (s.P.take i).reverse) (fun j hj => by
      rcases List.mem_append.1 hj with hj | hj
      · exact h.cols j (List.mem_of_mem_drop (List.mem_reverse.1 hj))
      · rcases List.mem_cons.1 hj with hj | hj
        · omega
        · exact h.cols j (List.mem_of_mem_take (List.mem_reverse.1 hj))) (by rw [hlen]; exact h.len)
    rwa [hlen] at this
  · rw [h.low i (by omega) hi k hk]
    have hr : s.P.length < m := by omega
    have := hB (swapF X s.P.length i) (Per.swap h.perm hr hi) (k :: s.P.reverse) (fun j hj => by
      rcases List.mem_cons.1 hj with hj | hj
      · omega
      · exact h.cols j (List.mem_reverse.1 hj)) (by simp; omega)
    have hlen : (k :: s.P.reverse).length = s.P.length + 1 := by simp
    rw [hlen] at this
    have e1 : swapF X s.P.length i s.P.length = X i := by unfold swapF; rw [if_pos rfl]
    have e2 : rows (swapF X s.P.length i) s.P.length = rows X s.P.length := rows_congr fun j hj => by
      unfold swapF; rw [if_neg (by omega), if_neg (by omega)]
    simp only [rows] at this
    rw [e1, e2] at this
    exact this
theorem Bnd.last {m n : Nat} {F : Nat → Nat → Int} {B : Int} (hB : Bnd m n F B) {s : ES} {X : Nat → Nat → Int} (h : Inv m n F s X) : s.d * s.d ≤ B := by
  rw [h.d]
  have := hB X h.perm s.P.reverse (fun j hj => h.cols j (List.mem_reverse.1 hj)) (by simp; exact h.len)
  rwa [List.length_reverse] at this
theorem pow_mono {B : Int} (hB : 1 ≤ B) {a b : Nat} (h : a ≤ b) : B ^ a ≤ B ^ b := by
  induction b with
  | zero => obtain rfl : a = 0 := by omega
            exact Int.le_refl _
  | succ b ih =>
    by_cases e : a = b + 1
    · rw [e]; exact Int.le_refl _
    · have h1 := ih (by omega)
      have h2 : 0 ≤ B ^ b := Int.pow_nonneg (by omega)
      rw [Int.pow_succ]
      have h3 : B ^ b * 1 ≤ B ^ b * B := Int.mul_le_mul_of_nonneg_left hB h2
      omega
/-- by the rows, where longer products vanish -/
theorem Bnd.byRows {m n L : Nat} {F : Nat → Nat → Int} {B : Int} (hB : 1 ≤ B) (h : ∀ i, i < m → sq n (F i) ≤ B) (hL : ∀ X, Per m F X → ∀ r, r ≤ m → L < r → nrm n (wl n (rows X r)) = 0) : Bnd m n F (B ^ L) := by
  intro X hX c hc hcm
  have h1 := kf_sq n c (wl n (rows X c.length))
  by_cases hl : L < c.length
  · rw [hL X hX _ hcm hl] at h1
    have h2 : 0 ≤ B ^ L := Int.pow_nonneg (by omega)
    omega
  · have h2 := nrm_wl n (rows X c.length) B (by omega) (fun x hx => by
      obtain ⟨i, hi, rfl⟩ := rows_mem hx
      obtain ⟨f, g, hf, _⟩ := hX
      rw [(hf i (by omega)).2.2]
      exact h _ (hf i (by omega)).1)
    rw [rows_length] at h2
    exact Int.le_trans h1 (Int.le_trans h2 (pow_mono hB (by omega)))
/-- no more rows than m -/
theorem Bnd.byRowsM {m n : Nat} {F : Nat → Nat → Int} {B : Int} (hB : 1 ≤ B) (h : ∀ i, i < m → sq n (F i) ≤ B) : Bnd m n F (B ^ m) :=
  Bnd.byRows hB h fun X _ r hr hl => by omega
/-- vectors ts to which all rows are orthogonal -/
theorem Bnd.byRowsT {m n : Nat} {F : Nat → Nat → Int} {B : Int} (hB : 1 ≤ B) (h : ∀ i, i < m → sq n (F i) ≤ B) (ts : List (Nat → Int)) (ho : ∀ t ∈ ts, ∀ i, i < m → dt n t (F i) = 0) (hp : ts.Pairwise fun t u => dt n t u = 0) (hs : ∀ t ∈ ts, 0 < sq n t) :
    Bnd m n F (B ^ (n - ts.length)) :=
  Bnd.byRows hB h fun X hX r hr hl => wl_orth ts (fun t ht x hx => by
    obtain ⟨i, hi, rfl⟩ := rows_mem hx
    obtain ⟨f, g, hf, _⟩ := hX
    rw [(hf i (by omega)).2.2]
    exact ho t ht _ (hf i (by omega)).1) hp hs (by rw [rows_length]; omega)

/-! by the columns -/
theorem tf_part (n : Nat) {r m : Nat} (hr : r ≤ m) (X : Nat → Nat → Int) (L : Form n → Int) : co m (tf n m X L) (fun i => decide (i < r)) = L (wl n (rows X r)) := by
  induction m generalizing L with
  | zero =>
    obtain rfl : r = 0 := by omega
    rfl
  | succ m ih =>
    by_cases e : r = m + 1
    · subst e
      rw [co_congr (t := fun _ => true) (fun k hk => by simp; omega)]
      exact tf_top n (m + 1) X L
    · show ite (decide (m < r) = true) _ _ = _
      rw [if_neg (by simp; omega)]
      exact ih (by omega) L
theorem tf_wl {n m : Nat} (X : Nat → Nat → Int) (c : List Nat) (hc : ∀ j ∈ c, j < n) : tf n m X (kf n c) = wl m (c.map fun q i => X i q) := by
  induction c with
  | nil => rw [show kf n [] = sc n from rfl, tf_sc]; rfl
  | cons q c ih =>
    rw [show kf n (q :: c) = fun a => kf n c (fi n q a) from rfl, tf_fi (hc q (by simp)) m X (kf n c) (kf_fz n c) (kf_add n c) (kf_mul n c), ih fun j hj => hc j (by simp [hj])]
    rfl
theorem kf_le_cols {n m r : Nat} (hr : r ≤ m) (X : Nat → Nat → Int) {c : List Nat} (hc : ∀ j ∈ c, j < n) : kf n c (wl n (rows X r)) * kf n c (wl n (rows X r)) ≤ nrm m (wl m (c.map fun q i => X i q)) := by
  rw [← tf_part n hr X (kf n c), tf_wl X c hc]
  exact co_sq _ _ _
/-- vectors to which the columns (but for those in N) are orthogonal -/
theorem Bnd.byCols {m n L : Nat} {F : Nat → Nat → Int} {B : Int} (hB : 1 ≤ B) (h : ∀ k, k < n → sq m (fun i => F i k) ≤ B)
    (ts : List (Nat → Int)) (ho : ∀ t ∈ ts, ∀ k, k < n → dt m t (fun i => F i k) = 0) (hp : ts.Pairwise fun t u => dt m t u = 0) (hs : ∀ t ∈ ts, 0 < sq m t) :
    Bnd m n F (B ^ (m - ts.length)) := by
  intro X hX c hc hcm
  have h1 := kf_le_cols hcm X hc
  obtain ⟨f, g, hf, hg⟩ := hX
  have hf' : ∀ i, i < m → f i < m ∧ g (f i) = i := fun i hi => ⟨(hf i hi).1, (hf i hi).2.1⟩
  have hcol : ∀ k, k < n → sq m (fun i => X i k) ≤ B := fun k hk => by
    rw [sq_sm, sm_congr (g := fun i => (fun j => F j k * F j k) (f i)) (fun i hi => by rw [(hf i hi).2.2]), sm_perm hf' hg (fun j => F j k * F j k), ← sq_sm]
    exact h k hk
  by_cases hl : m - ts.length < c.length
  · have h2 := wl_orth (n := m) (ts.map fun t i => t (f i)) (l := c.map fun q i => X i q) (fun t ht x hx => by
      obtain ⟨t, ht', rfl⟩ := List.mem_map.1 ht
      obtain ⟨q, hq, rfl⟩ := List.mem_map.1 hx
      rw [dt_sm, sm_congr (g := fun i => (fun j => t j * F j q) (f i)) (fun i hi => by rw [(hf i hi).2.2]), sm_perm hf' hg (fun j => t j * F j q), ← dt_sm]
      exact ho t ht' q (hc q hq)) (List.pairwise_map.2 (hp.imp fun {a b} e => by
        rw [dt_sm, sm_perm hf' hg (fun j => a j * b j), ← dt_sm]; exact e)) (fun t ht => by
        obtain ⟨t, ht', rfl⟩ := List.mem_map.1 ht
        rw [sq_sm, sm_perm hf' hg (fun j => t j * t j), ← sq_sm]; exact hs t ht') (by simp; omega)
    have h3 : 0 ≤ B ^ (m - ts.length) := Int.pow_nonneg (by omega)
    omega
  · have h2 := nrm_wl m (c.map fun q i => X i q) B (by omega) (fun x hx => by
      obtain ⟨q, hq, rfl⟩ := List.mem_map.1 hx
      exact hcol q (hc q hq))
    rw [List.length_map] at h2
    exact Int.le_trans h1 (Int.le_trans h2 (pow_mono hB (by omega)))

theorem kf_dup {n : Nat} {c : List Nat} (h : ¬ c.Nodup) (w : Form n) : kf n c w = 0 := by
  induction c generalizing w with
  | nil => exact absurd List.nodup_nil h
  | cons q c ih =>
    by_cases hq : q ∈ c
    · exact kf_mem hq w
    · exact ih (fun hn => h (List.nodup_cons.2 ⟨hq, hn⟩)) _
theorem wl_move (n : Nat) (a b : List (Nat → Int)) (x : Nat → Int) : ∃ e : Int, e * e = 1 ∧ wl n (a ++ x :: b) = fmul n e (fw n x (wl n (a ++ b))) := by
  induction a with
  | nil => exact ⟨1, rfl, co_ext fun s => by rw [co_mul, Int.one_mul]; rfl⟩
  | cons y a ih =>
    obtain ⟨e, he, h⟩ := ih
    refine ⟨-e, by rw [Int.neg_mul_neg]; exact he, ?_⟩
    show fw n y (wl n (a ++ x :: b)) = fmul n (-e) (fw n x (fw n y (wl n (a ++ b))))
    rw [h, fw_mul, fw_anti n y x]
    exact co_ext fun s => by simp only [co_mul]; grind
theorem map_split {α : Type} (f : Nat → α) {c : List Nat} {z : Nat} (h : z ∈ c) (hn : c.Nodup) : ∃ a b, c = a ++ z :: b ∧ z ∉ a ++ b := by
  obtain ⟨a, b, rfl⟩ := List.append_of_mem h
  refine ⟨a, b, rfl, fun hm => ?_⟩
  have h1 := List.nodup_append.1 hn
  rcases List.mem_append.1 hm with hm | hm
  · exact h1.2.2 z hm z (by simp) rfl
  · exact (List.nodup_cons.1 h1.2.1).1 hm
/-- the same, with one column that is like no other -/
theorem Bnd.byColsZ {m n z : Nat} {F : Nat → Nat → Int} {B C : Int} (hB : 1 ≤ B) (hC : 1 ≤ C) (h : ∀ k, k < n → k ≠ z → sq m (fun i => F i k) ≤ B) (hz : z < n → sq m (fun i => F i z) ≤ C)
    (ts : List (Nat → Int)) (ho : ∀ t ∈ ts, ∀ k, k < n → k ≠ z → dt m t (fun i => F i k) = 0) (hp : ts.Pairwise fun t u => dt m t u = 0) (hs : ∀ t ∈ ts, 0 < sq m t) :
    Bnd m n F (B ^ (m - ts.length) * C) := by
  intro X hX c hc hcm
  have h0 : 1 ≤ B ^ (m - ts.length) := by have := pow_mono (a := 0) (b := m - ts.length) hB (Nat.zero_le _); rwa [Int.pow_zero] at this
  have h0C : 0 ≤ B ^ (m - ts.length) * C := Int.mul_nonneg (by omega) (by omega)
  by_cases hnd : c.Nodup
  rotate_left
  · rw [kf_dup hnd]; exact h0C
  have h1 := kf_le_cols hcm X hc
  obtain ⟨f, g, hf, hg⟩ := hX
  have hf' : ∀ i, i < m → f i < m ∧ g (f i) = i := fun i hi => ⟨(hf i hi).1, (hf i hi).2.1⟩
  have hsqc : ∀ k, sq m (fun i => X i k) = sq m fun i => F i k := fun k => by
    rw [sq_sm, sm_congr (g := fun i => (fun j => F j k * F j k) (f i)) (fun i hi => by rw [(hf i hi).2.2]), sm_perm hf' hg (fun j => F j k * F j k), ← sq_sm]
  have key : ∀ e : List Nat, (∀ j ∈ e, j < n ∧ j ≠ z) → nrm m (wl m (e.map fun q i => X i q)) ≤ B ^ (m - ts.length) := by
    intro e he
    by_cases hl : m - ts.length < e.length
    · have h2 := wl_orth (n := m) (ts.map fun t i => t (f i)) (l := e.map fun q i => X i q) (fun t ht x hx => by
        obtain ⟨t, ht', rfl⟩ := List.mem_map.1 ht
        obtain ⟨q, hq, rfl⟩ := List.mem_map.1 hx
        rw [dt_sm, sm_congr (g := fun i => (fun j => t j * F j q) (f i)) (fun i hi => by rw [(hf i hi).2.2]), sm_perm hf' hg (fun j => t j * F j q), ← dt_sm]
        exact ho t ht' q (he q hq).1 (he q hq).2) (List.pairwise_map.2 (hp.imp fun {a b} e => by
          rw [dt_sm, sm_perm hf' hg (fun j => a j * b j), ← dt_sm]; exact e)) (fun t ht => by
          obtain ⟨t, ht', rfl⟩ := List.mem_map.1 ht
          rw [sq_sm, sm_perm hf' hg (fun j => t j * t j), ← sq_sm]; exact hs t ht') (by simp; omega)
      omega
    · have h2 := nrm_wl m (e.map fun q i => X i q) B (by omega) (fun x hx => by
        obtain ⟨q, hq, rfl⟩ := List.mem_map.1 hx
        show sq m (fun i => X i q) ≤ B
        rw [hsqc]; exact h q (he q hq).1 (he q hq).2)
      rw [List.length_map] at h2
      exact Int.le_trans h2 (pow_mono hB (by omega))
  by_cases hzc : z ∈ c
  · obtain ⟨a, b, rfl, hzab⟩ := map_split (fun q => q) hzc hnd
    have h3 := key (a ++ b) fun j hj => ⟨hc j (by
      rcases List.mem_append.1 hj with hj | hj
      · exact List.mem_append_left _ hj
      · exact List.mem_append_right _ (List.mem_cons_of_mem _ hj)), fun e => hzab (e ▸ hj)⟩
    rw [List.map_append] at h3
    obtain ⟨e, he, h4⟩ := wl_move m (a.map fun q i => X i q) (b.map fun q i => X i q) (fun i => X i z)
    rw [List.map_append, List.map_cons, h4, nrm_mul, he, Int.one_mul] at h1
    have h5 := nrm_fw m (fun i => X i z) (wl m ((a.map fun q i => X i q) ++ b.map fun q i => X i q))
    rw [hsqc] at h5
    have h6 := hz (hc z hzc)
    have h7 := nrm_nonneg m (wl m ((a.map fun q i => X i q) ++ b.map fun q i => X i q))
    have h8 := Int.mul_le_mul_of_nonneg_right h6 h7
    have h9 : C * nrm m (wl m ((a.map fun q i => X i q) ++ b.map fun q i => X i q)) ≤ C * B ^ (m - ts.length) := Int.mul_le_mul_of_nonneg_left h3 (by omega)
    rw [Int.mul_comm C (B ^ _)] at h9
    exact Int.le_trans h1 (Int.le_trans h5 (Int.le_trans h8 h9))
  · have h3 := key c fun j hj => ⟨hc j hj, fun e => hzc (e ▸ hj)⟩
    have h4 : B ^ (m - ts.length) * 1 ≤ B ^ (m - ts.length) * C := Int.mul_le_mul_of_nonneg_left hC (by omega)
    omega

theorem redF_P {m : Nat} (F : Nat → Nat → Int) (c : Nat) : (∀ j ∈ (redF m F c).P, j < c) ∧ (redF m F c).P.Nodup := by
  induction c with
  | zero => exact ⟨fun j hj => by simp [redF] at hj, List.nodup_nil⟩
  | succ c ih =>
    simp only [redF]
    have h0 : (∀ j ∈ (redF m F c).P, j < c + 1) ∧ (redF m F c).P.Nodup := ⟨fun j hj => by have := ih.1 j hj; omega, ih.2⟩
    unfold stepF
    split
    · split
      · refine ⟨fun j hj => ?_, ?_⟩
        · rcases List.mem_append.1 hj with hj | hj
          · exact h0.1 j hj
          · simp at hj; omega
        · refine List.nodup_append.2 ⟨ih.2, by simp, fun a ha b hb => ?_⟩
          simp at hb
          have := ih.1 a ha
          omega
      · exact h0
    · exact h0
/-- the number of a row at its own column -/
theorem Inv.pivot {m n : Nat} {F0 : Nat → Nat → Int} {s : ES} {X : Nat → Nat → Int} (h : Inv m n F0 s X) {i : Nat} (hi : i < s.P.length) : s.F i s.P[i] = s.d := by
  have e3 : s.P.reverse = (s.P.drop (i + 1)).reverse ++ s.P[i] :: (s.P.take i).reverse := by
    have e4 : s.P = s.P.take i ++ s.P[i] :: s.P.drop (i + 1) := by
      rw [← List.drop_eq_getElem_cons hi, List.take_append_drop]
    conv => lhs; rw [e4]
    simp
  rw [h.up i hi _ (h.cols _ (List.getElem_mem hi)), h.d, e3]

/-- a vector that the rows take to zero, for a column that is nobody's -/
def vI (s : ES) (free k : Nat) : Int := if k = free then s.d else if k ∈ s.P then -s.F (s.P.idxOf k) free else 0
def qN (S : Nat → Nat → Int) (P : List Nat) (free i : Nat) : Nat := (S i (P[i]?.getD 0)).natAbs / Nat.gcd (S i (P[i]?.getD 0)).natAbs (S i free).natAbs
def dN (S : Nat → Nat → Int) (P : List Nat) (free : Nat) : Nat → Nat
  | 0 => 1
  | i + 1 => dN S P free i / Nat.gcd (dN S P free i) (qN S P free i) * qN S P free i
def vS (S : Nat → Nat → Int) (P : List Nat) (free k : Nat) : Int :=
  if k = free then (dN S P free P.length : Int) else if k ∈ P then -(S (P.idxOf k) free * (dN S P free P.length : Int)).tdiv (S (P.idxOf k) k) else 0

theorem lcm_eq (a b : Nat) : a / Nat.gcd a b * b = Nat.lcm a b := by
  unfold Nat.lcm
  exact Nat.div_mul_right_comm (Nat.gcd_dvd_left a b) b
theorem dN_succ (S : Nat → Nat → Int) (P : List Nat) (free i : Nat) : dN S P free (i + 1) = Nat.lcm (dN S P free i) (qN S P free i) := lcm_eq _ _

section
variable {m n : Nat} {F0 : Nat → Nat → Int} {s : ES} {X : Nat → Nat → Int} {S : Nat → Nat → Int}
/-- the reference's rows are the same, but for a factor -/
theorem row_of (hS : ∀ i, i < m → ∀ k, k < n → S i k = primF n (s.F i) k) {i : Nat} (hi : i < m) : ∃ a : Int, a ≠ 0 ∧ ∀ k, k < n → s.F i k = a * S i k := by
  obtain ⟨a, ha, e⟩ := primF_of n (s.F i)
  exact ⟨a, ha, fun k hk => by rw [hS i hi k hk]; exact e k hk⟩
theorem piv_ne (h : Inv m n F0 s X) (hS : ∀ i, i < m → ∀ k, k < n → S i k = primF n (s.F i) k) {i : Nat} (hi : i < s.P.length) : S i s.P[i] ≠ 0 ∧ S i s.P[i] ∣ s.d := by
  obtain ⟨a, ha, e⟩ := row_of hS (Nat.lt_of_lt_of_le hi h.len)
  have h1 := e s.P[i] (h.cols _ (List.getElem_mem hi))
  rw [h.pivot hi] at h1
  refine ⟨fun e0 => h.nz (by rw [h1, e0, Int.mul_zero]), ⟨a, by rw [h1, Int.mul_comm]⟩⟩
theorem qN_dvd (h : Inv m n F0 s X) (hS : ∀ i, i < m → ∀ k, k < n → S i k = primF n (s.F i) k) {i : Nat} (hi : i < s.P.length) (free : Nat) : 0 < qN S s.P free i ∧ qN S s.P free i ∣ s.d.natAbs ∧ ∀ D : Nat, qN S s.P free i ∣ D → S i s.P[i] ∣ S i free * (D : Int) := by
  obtain ⟨h1, h2⟩ := piv_ne h hS hi
  have e0 : s.P[i]?.getD 0 = s.P[i] := by simp [hi]
  unfold qN
  rw [e0]
  generalize S i s.P[i] = p at *
  generalize S i free = f at *
  have hp : 0 < p.natAbs := Int.natAbs_pos.2 h1
  obtain ⟨u, hu⟩ := Nat.gcd_dvd_left p.natAbs f.natAbs
  obtain ⟨t, ht⟩ := Nat.gcd_dvd_right p.natAbs f.natAbs
  have hg : 0 < Nat.gcd p.natAbs f.natAbs := Nat.gcd_pos_of_pos_left _ hp
  generalize Nat.gcd p.natAbs f.natAbs = g at *
  have hq : p.natAbs / g = u := by rw [hu]; exact Nat.mul_div_cancel_left u hg
  rw [hq]
  refine ⟨?_, ?_, ?_⟩
  · rcases Nat.eq_zero_or_pos u with h | h
    · rw [h, Nat.mul_zero] at hu; omega
    · exact h
  · exact Nat.dvd_trans ⟨g, by rw [hu, Nat.mul_comm]⟩ (Int.natAbs_dvd_natAbs.2 h2)
  · rintro D ⟨w, rfl⟩
    refine Int.natAbs_dvd_natAbs.1 ?_
    rw [Int.natAbs_mul, hu, ht, Int.natAbs_natCast]
    exact ⟨t * w, by simp only [Nat.mul_assoc, Nat.mul_left_comm]⟩
theorem dN_ok (h : Inv m n F0 s X) (hS : ∀ i, i < m → ∀ k, k < n → S i k = primF n (s.F i) k) (free : Nat) {j : Nat} (hj : j ≤ s.P.length) : 0 < dN S s.P free j ∧ dN S s.P free j ∣ s.d.natAbs ∧ ∀ i, i < j → qN S s.P free i ∣ dN S s.P free j := by
  induction j with
  | zero => exact ⟨Nat.one_pos, Nat.one_dvd _, fun i hi => by omega⟩
  | succ j ih =>
    obtain ⟨h1, h2, h3⟩ := ih (by omega)
    obtain ⟨q1, q2, _⟩ := qN_dvd h hS (show j < s.P.length by omega) free
    rw [dN_succ]
    refine ⟨Nat.lcm_pos h1 q1, Nat.lcm_dvd h2 q2, fun i hi => ?_⟩
    by_cases e : i = j
    · subst e; exact Nat.dvd_lcm_right _ _
    · exact Nat.dvd_trans (h3 i (by omega)) (Nat.dvd_lcm_left _ _)
theorem dN_le (h : Inv m n F0 s X) (hS : ∀ i, i < m → ∀ k, k < n → S i k = primF n (s.F i) k) (free : Nat) {j : Nat} (hj : j ≤ s.P.length) : (dN S s.P free j : Int) ≤ s.d.natAbs := by
  have h1 := dN_ok h hS free hj
  exact Int.ofNat_le.2 (Nat.le_of_dvd (Int.natAbs_pos.2 h.nz) h1.2.1)
theorem null_sim (h : Inv m n F0 s X) (hS : ∀ i, i < m → ∀ k, k < n → S i k = primF n (s.F i) k) {free : Nat} (hf : free < n) {k : Nat} (hk : k < n) : primF n (vI s free) k = primF n (vS S s.P free) k := by
  obtain ⟨d1, d2, d3⟩ := dN_ok h hS free (Nat.le_refl _)
  have hD : (dN S s.P free s.P.length : Int) ≠ 0 := by omega
  have key : ∀ k, k < n → s.d * vS S s.P free k = (dN S s.P free s.P.length : Int) * vI s free k := by
    intro k hk
    unfold vS vI
    by_cases e1 : k = free
    · rw [if_pos e1, if_pos e1, Int.mul_comm]
    · rw [if_neg e1, if_neg e1]
      by_cases e2 : k ∈ s.P
      · rw [if_pos e2, if_pos e2]
        have hi : s.P.idxOf k < s.P.length := List.idxOf_lt_length_of_mem e2
        have hk2 : s.P[s.P.idxOf k] = k := List.getElem_idxOf hi
        generalize hix : s.P.idxOf k = i at *
        obtain ⟨p1, _⟩ := piv_ne h hS hi
        obtain ⟨_, _, q3⟩ := qN_dvd h hS hi free
        obtain ⟨z, hz⟩ := q3 _ (d3 i hi)
        rw [hk2] at p1 hz
        obtain ⟨a, ha, e⟩ := row_of hS (Nat.lt_of_lt_of_le hi h.len)
        have h1 := h.pivot hi
        rw [hk2, e k hk] at h1
        rw [tdiv_exact p1 hz.symm, e free hf, ← h1]
        have : S i free * (dN S s.P free s.P.length : Int) = S i k * z := hz
        calc a * S i k * -z = -(a * (S i k * z)) := by grind
          _ = -(a * (S i free * (dN S s.P free s.P.length : Int))) := by rw [this]
          _ = (dN S s.P free s.P.length : Int) * -(a * S i free) := by grind
      · rw [if_neg e2, if_neg e2, Int.mul_zero, Int.mul_zero]
  rw [← primF_scale hD (fun k hk => key k hk) hk, primF_scale h.nz (fun k hk => rfl) hk]
end
end Gr

