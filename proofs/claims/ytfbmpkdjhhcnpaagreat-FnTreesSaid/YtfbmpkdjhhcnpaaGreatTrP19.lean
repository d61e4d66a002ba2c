/- Plain mathematics: the two eliminations, that they go the same way, and bounds on the numbers that arise. No condition. -/
import Derived.Test.YtfbmpkdjhhcnpaaGreatTrP16
namespace Gr
set_option linter.unusedVariables false
set_option linter.unusedSimpArgs false

/-- the state of an elimination: the numbers, the columns, the last divisor -/
structure ES where
  F : Nat → Nat → Int
  P : List Nat
  d : Int
def findF (F : Nat → Nat → Int) (m c p : Nat) : Nat := if p < m then (if F p c = 0 then findF F m c (p + 1) else p) else p
termination_by m - p
theorem findF_ge (F : Nat → Nat → Int) (m c p : Nat) : p ≤ findF F m c p := by
  fun_induction findF F m c p <;> omega
theorem findF_ne {F : Nat → Nat → Int} {m c p : Nat} (h : findF F m c p < m) : F (findF F m c p) c ≠ 0 := by
  fun_induction findF F m c p
  · rename_i ih; exact ih h
  · assumption
  · omega
def swapF (F : Nat → Nat → Int) (r p : Nat) : Nat → Nat → Int := fun i => if i = r then F p else if i = p then F r else F i
def elimF (F : Nat → Nat → Int) (r c : Nat) (d : Int) : Nat → Nat → Int := fun i k => if i = r then F r k else (F r c * F i k - F i c * F r k).tdiv d
def stepF (m c : Nat) (s : ES) : ES :=
  if s.P.length < m then
    (if findF s.F m c s.P.length < m then ⟨elimF (swapF s.F s.P.length (findF s.F m c s.P.length)) s.P.length c s.d, s.P ++ [c], s.F (findF s.F m c s.P.length) c⟩ else s)
  else s
def redF (m : Nat) (F : Nat → Nat → Int) : Nat → ES
  | 0 => ⟨F, [], 1⟩
  | c + 1 => stepF m c (redF m F c)

theorem rows_congr {X Y : Nat → Nat → Int} {r : Nat} (h : ∀ i, i < r → X i = Y i) : rows X r = rows Y r := by
  induction r with
  | zero => rfl
  | succ r ih => simp only [rows]; rw [h r (by omega), ih fun i hi => h i (by omega)]
/-- what the state is, told by the rows of the beginning in another order -/
structure Inv (m n : Nat) (F0 : Nat → Nat → Int) (s : ES) (X : Nat → Nat → Int) : Prop where
  len : s.P.length ≤ m
  perm : ∃ f g : Nat → Nat, (∀ i, i < m → f i < m ∧ g (f i) = i ∧ X i = F0 (f i)) ∧ ∀ i, i < m → g i < m ∧ f (g i) = i
  cols : ∀ j ∈ s.P, j < n
  d : s.d = kf n s.P.reverse (wl n (rows X s.P.length))
  nz : s.d ≠ 0
  low : ∀ i, s.P.length ≤ i → i < m → ∀ k, k < n → s.F i k = ev n s.P.reverse (rows X s.P.length) (X i) k
  up : ∀ i, i < s.P.length → ∀ k, k < n → s.F i k = kf n ((s.P.drop (i + 1)).reverse ++ k :: (s.P.take i).reverse) (wl n (rows X s.P.length))

theorem Inv.start (m n : Nat) (F : Nat → Nat → Int) : Inv m n F ⟨F, [], 1⟩ F where
  len := Nat.zero_le _
  perm := ⟨id, id, fun i hi => ⟨hi, rfl, rfl⟩, fun i hi => ⟨hi, rfl⟩⟩
  cols := fun j hj => by simp at hj
  d := (sc_one n).symm
  nz := Int.one_ne_zero
  low := fun i _ hi k hk => (ev_nil hk).symm
  up := fun i hi => by simp at hi

theorem tdiv_exact {a b z : Int} (hb : b ≠ 0) (h : b * z = a) : a.tdiv b = z := by
  rw [← h, Int.mul_comm]; exact Int.mul_tdiv_cancel z hb

theorem Inv.step {m n : Nat} {F0 : Nat → Nat → Int} {s : ES} {X : Nat → Nat → Int} (h : Inv m n F0 s X) {c : Nat} (hc : c < n) : ∃ Y, Inv m n F0 (stepF m c s) Y := by
  unfold stepF
  by_cases h1 : s.P.length < m
  · rw [if_pos h1]
    by_cases h2 : findF s.F m c s.P.length < m
    · rw [if_pos h2]
      have hp := findF_ge s.F m c s.P.length
      have hne := findF_ne h2
      generalize findF s.F m c s.P.length = p at *
      have hR : rows (swapF X s.P.length p) s.P.length = rows X s.P.length := rows_congr fun i hi => by
        unfold swapF; rw [if_neg (by omega), if_neg (by omega)]
      have hXr : swapF X s.P.length p s.P.length = X p := by unfold swapF; rw [if_pos rfl]
      have hR' : rows (swapF X s.P.length p) (s.P.length + 1) = X p :: rows X s.P.length := by
        show swapF X s.P.length p s.P.length :: rows (swapF X s.P.length p) s.P.length = _
        rw [hXr, hR]
      have hlen : (s.P ++ [c]).length = s.P.length + 1 := by simp
      have hrev : (s.P ++ [c]).reverse = c :: s.P.reverse := by simp
      have hcl : ∀ j ∈ s.P.reverse, j < n := fun j hj => h.cols j (List.mem_reverse.1 hj)
      have hdne : kf n s.P.reverse (wl n (rows X s.P.length)) ≠ 0 := by rw [← h.d]; exact h.nz
      have hG : ∀ i, s.P.length ≤ i → i < m → ∀ k, k < n → swapF s.F s.P.length p i k = ev n s.P.reverse (rows X s.P.length) (swapF X s.P.length p i) k := by
        intro i hi him k hk
        unfold swapF
        by_cases e1 : i = s.P.length
        · rw [if_pos e1, if_pos e1]; exact h.low p hp h2 k hk
        · rw [if_neg e1, if_neg e1]
          by_cases e2 : i = p
          · rw [if_pos e2, if_pos e2]; exact h.low _ (Nat.le_refl _) h1 k hk
          · rw [if_neg e2, if_neg e2]; exact h.low i hi him k hk
      have hGu : ∀ i, i < s.P.length → swapF s.F s.P.length p i = s.F i := fun i hi => by
        unfold swapF; rw [if_neg (by omega), if_neg (by omega)]
      refine ⟨swapF X s.P.length p, ?_⟩
      constructor
      · show (s.P ++ [c]).length ≤ m
        rw [hlen]; omega
      · obtain ⟨f, g, hf, hg⟩ := h.perm
        refine ⟨fun i => if i = s.P.length then f p else if i = p then f s.P.length else f i, fun j => if g j = s.P.length then p else if g j = p then s.P.length else g j, fun i hi => ?_, fun i hi => ?_⟩
        · have a1 := hf i hi
          have a2 := hf p h2
          have a3 := hf _ h1
          by_cases e1 : i = s.P.length
          · subst e1
            simp only [if_true]
            refine ⟨a2.1, ?_, ?_⟩
            · rw [a2.2.1]
              by_cases e : p = s.P.length
              · rw [if_pos e, e]
              · rw [if_neg e, if_pos rfl]
            · rw [hXr]; exact a2.2.2
          · by_cases e2 : i = p
            · subst e2
              simp only [if_neg e1, if_true]
              refine ⟨a3.1, ?_, ?_⟩
              · rw [a3.2.1, if_pos rfl]
              · unfold swapF; rw [if_neg e1, if_pos rfl]; exact a3.2.2
            · simp only [if_neg e1, if_neg e2]
              refine ⟨a1.1, ?_, ?_⟩
              · rw [a1.2.1, if_neg e1, if_neg e2]
              · unfold swapF; rw [if_neg e1, if_neg e2]; exact a1.2.2
        · have b1 := hg i hi
          have a2 := hf p h2
          have a3 := hf _ h1
          by_cases e1 : g i = s.P.length
          · simp only [if_pos e1]
            refine ⟨h2, ?_⟩
            by_cases e : p = s.P.length
            · rw [if_pos e, e, ← e1]; exact b1.2
            · rw [if_neg e, if_pos trivial, ← e1]; exact b1.2
          · by_cases e2 : g i = p
            · simp only [if_neg e1, if_pos e2]
              refine ⟨h1, ?_⟩
              rw [if_pos trivial, ← e2]; exact b1.2
            · simp only [if_neg e1, if_neg e2]
              exact b1
      · intro j hj
        rcases List.mem_append.1 hj with hj | hj
        · exact h.cols j hj
        · simp at hj; omega
      · show s.F p c = kf n (s.P ++ [c]).reverse (wl n (rows (swapF X s.P.length p) (s.P ++ [c]).length))
        rw [hlen, hR', hrev, ← ev_d]
        exact h.low p hp h2 c hc
      · exact hne
      · intro i hi him k hk
        rw [show (s.P ++ [c]).length = s.P.length + 1 from hlen] at hi
        show elimF (swapF s.F s.P.length p) s.P.length c s.d i k = ev n (s.P ++ [c]).reverse (rows (swapF X s.P.length p) (s.P ++ [c]).length) (swapF X s.P.length p i) k
        rw [hlen, hR', hrev]
        unfold elimF
        rw [if_neg (by omega)]
        refine tdiv_exact h.nz ?_
        rw [hG _ (Nat.le_refl _) h1 c hc, hG _ (Nat.le_refl _) h1 k hk, hG i (by omega) him c hc, hG i (by omega) him k hk, hXr, h.d]
        exact ev_step hcl hc hk hdne
      · intro i hi k hk
        rw [show (s.P ++ [c]).length = s.P.length + 1 from hlen] at hi
        show elimF (swapF s.F s.P.length p) s.P.length c s.d i k = kf n (((s.P ++ [c]).drop (i + 1)).reverse ++ k :: ((s.P ++ [c]).take i).reverse) (wl n (rows (swapF X s.P.length p) (s.P ++ [c]).length))
        rw [hlen, hR']
        unfold elimF
        by_cases e : i = s.P.length
        · subst e
          rw [if_pos rfl, hG _ (Nat.le_refl _) h1 k hk, hXr]
          have e1 : (s.P ++ [c]).drop (s.P.length + 1) = [] := List.drop_eq_nil_of_le (by simp)
          have e2 : (s.P ++ [c]).take s.P.length = s.P := by simp
          rw [e1, e2]
          rfl
        · have hi' : i < s.P.length := by omega
          rw [if_neg e]
          refine tdiv_exact h.nz ?_
          have e1 : ((s.P ++ [c]).drop (i + 1)).reverse = c :: (s.P.drop (i + 1)).reverse := by
            rw [List.drop_append_of_le_length (by omega)]; simp
          have e2 : (s.P ++ [c]).take i = s.P.take i := by rw [List.take_append_of_le_length (by omega)]
          have e3 : s.P.reverse = (s.P.drop (i + 1)).reverse ++ s.P[i] :: (s.P.take i).reverse := by
            have e4 : s.P = s.P.take i ++ s.P[i] :: s.P.drop (i + 1) := by
              rw [← List.drop_eq_getElem_cons hi', List.take_append_drop]
            conv => lhs; rw [e4]
            simp
          rw [hG _ (Nat.le_refl _) h1 c hc, hG _ (Nat.le_refl _) h1 k hk, hGu i hi', h.up i hi' c hc, h.up i hi' k hk, hXr, h.d, e1, e2]
          rw [e3] at hcl ⊢
          exact nv_step hcl hc hk
    · rw [if_neg h2]; exact ⟨X, h⟩
  · rw [if_neg h1]; exact ⟨X, h⟩
theorem Inv.all {m n : Nat} (F : Nat → Nat → Int) {c : Nat} (hc : c ≤ n) : ∃ X, Inv m n F (redF m F c) X := by
  induction c with
  | zero => exact ⟨F, Inv.start m n F⟩
  | succ c ih =>
    obtain ⟨X, h⟩ := ih (by omega)
    exact h.step (by omega)

/-- a step, without the division -/
theorem elim_mul {m n : Nat} {F0 : Nat → Nat → Int} {s : ES} {X : Nat → Nat → Int} (h : Inv m n F0 s X) {c : Nat} (hc : c < n) {p : Nat} (hp : s.P.length ≤ p) (h2 : p < m) {i : Nat} (hi : i < m) (hir : i ≠ s.P.length) {k : Nat} (hk : k < n) :
    s.d * elimF (swapF s.F s.P.length p) s.P.length c s.d i k = swapF s.F s.P.length p s.P.length c * swapF s.F s.P.length p i k - swapF s.F s.P.length p i c * swapF s.F s.P.length p s.P.length k := by
  have h1 : s.P.length < m := by omega
  have hXr : swapF X s.P.length p s.P.length = X p := by unfold swapF; rw [if_pos rfl]
  have hcl : ∀ j ∈ s.P.reverse, j < n := fun j hj => h.cols j (List.mem_reverse.1 hj)
  have hdne : kf n s.P.reverse (wl n (rows X s.P.length)) ≠ 0 := by rw [← h.d]; exact h.nz
  have hG : ∀ i, s.P.length ≤ i → i < m → ∀ k, k < n → swapF s.F s.P.length p i k = ev n s.P.reverse (rows X s.P.length) (swapF X s.P.length p i) k := by
    intro i hi him k hk
    unfold swapF
    by_cases e1 : i = s.P.length
    · rw [if_pos e1, if_pos e1]; exact h.low p hp h2 k hk
    · rw [if_neg e1, if_neg e1]
      by_cases e2 : i = p
      · rw [if_pos e2, if_pos e2]; exact h.low _ (Nat.le_refl _) h1 k hk
      · rw [if_neg e2, if_neg e2]; exact h.low i hi him k hk
  have hGu : ∀ i, i < s.P.length → swapF s.F s.P.length p i = s.F i := fun i hi => by
    unfold swapF; rw [if_neg (by omega), if_neg (by omega)]
  unfold elimF
  rw [if_neg hir]
  by_cases hl : s.P.length ≤ i
  · have e := ev_step (x := swapF X s.P.length p i) (y := X p) hcl hc hk hdne
    rw [← h.d] at e
    have e2 : swapF s.F s.P.length p s.P.length c * swapF s.F s.P.length p i k - swapF s.F s.P.length p i c * swapF s.F s.P.length p s.P.length k = s.d * ev n (c :: s.P.reverse) (X p :: rows X s.P.length) (swapF X s.P.length p i) k := by
      rw [hG _ (Nat.le_refl _) h1 c hc, hG _ (Nat.le_refl _) h1 k hk, hG i hl hi c hc, hG i hl hi k hk, hXr]
      exact e.symm
    rw [e2, tdiv_exact h.nz rfl]
  · have hi' : i < s.P.length := by omega
    have e3 : s.P.reverse = (s.P.drop (i + 1)).reverse ++ s.P[i] :: (s.P.take i).reverse := by
      have e4 : s.P = s.P.take i ++ s.P[i] :: s.P.drop (i + 1) := by
        rw [← List.drop_eq_getElem_cons hi', List.take_append_drop]
      conv => lhs; rw [e4]
      simp
    have e2 : swapF s.F s.P.length p s.P.length c * swapF s.F s.P.length p i k - swapF s.F s.P.length p i c * swapF s.F s.P.length p s.P.length k = s.d * kf n (c :: ((s.P.drop (i + 1)).reverse ++ k :: (s.P.take i).reverse)) (wl n (X p :: rows X s.P.length)) := by
      rw [hG _ (Nat.le_refl _) h1 c hc, hG _ (Nat.le_refl _) h1 k hk, hGu i hi', h.up i hi' c hc, h.up i hi' k hk, hXr, h.d]
      rw [e3] at hcl ⊢
      exact (nv_step hcl hc hk).symm
    rw [e2, tdiv_exact h.nz rfl]

/-! ### primitive vectors -/
def pgF (f : Nat → Int) : Nat → Nat
  | 0 => 0
  | k + 1 => Nat.gcd (pgF f k) (f k).natAbs
def fsF (f : Nat → Int) : Nat → Int
  | 0 => 0
  | k + 1 => if fsF f k = 0 then f k else fsF f k
def denF (n : Nat) (f : Nat → Int) : Int := if fsF f n < 0 then -(pgF f n : Int) else pgF f n
def primF (n : Nat) (f : Nat → Int) (k : Nat) : Int := if pgF f n = 0 then f k else (f k).tdiv (denF n f)
theorem pgF_congr {f h : Nat → Int} {n : Nat} (e : ∀ k, k < n → f k = h k) : pgF f n = pgF h n := by
  induction n with
  | zero => rfl
  | succ n ih => simp only [pgF]; rw [ih fun k hk => e k (by omega), e n (by omega)]
theorem fsF_congr {f h : Nat → Int} {n : Nat} (e : ∀ k, k < n → f k = h k) : fsF f n = fsF h n := by
  induction n with
  | zero => rfl
  | succ n ih => simp only [fsF]; rw [ih fun k hk => e k (by omega), e n (by omega)]
theorem pgF_mul (c : Int) (f : Nat → Int) (n : Nat) : pgF (fun k => c * f k) n = c.natAbs * pgF f n := by
  induction n with
  | zero => simp [pgF]
  | succ n ih => simp only [pgF]; rw [ih, Int.natAbs_mul, Nat.gcd_mul_left]
theorem fsF_mul {c : Int} (hc : c ≠ 0) (f : Nat → Int) (n : Nat) : fsF (fun k => c * f k) n = c * fsF f n := by
  induction n with
  | zero => simp [fsF]
  | succ n ih =>
    simp only [fsF]; rw [ih]
    by_cases h : fsF f n = 0
    · rw [if_pos h, if_pos (by rw [h, Int.mul_zero])]
    · rw [if_neg h, if_neg (fun e => by rcases Int.mul_eq_zero.1 e with e | e; exact hc e; exact h e)]
theorem pgF_dvd (f : Nat → Int) {n k : Nat} (hk : k < n) : (pgF f n : Int) ∣ f k := by
  induction n with
  | zero => omega
  | succ n ih =>
    simp only [pgF]
    by_cases e : k = n
    · subst e; exact Int.ofNat_dvd_left.2 (Nat.gcd_dvd_right _ _)
    · exact Int.dvd_trans (Int.ofNat_dvd.2 (Nat.gcd_dvd_left _ _)) (ih (by omega))
theorem pgF_zero {f : Nat → Int} {n : Nat} : pgF f n = 0 ↔ ∀ k, k < n → f k = 0 := by
  induction n with
  | zero => simp [pgF]
  | succ n ih =>
    simp only [pgF, Nat.gcd_eq_zero_iff, ih, Int.natAbs_eq_zero]
    constructor
    · rintro ⟨h1, h2⟩ k hk
      by_cases e : k = n
      · subst e; exact h2
      · exact h1 k (by omega)
    · intro h; exact ⟨fun k hk => h k (by omega), h n (by omega)⟩
theorem fsF_zero {f : Nat → Int} {n : Nat} : fsF f n = 0 ↔ ∀ k, k < n → f k = 0 := by
  induction n with
  | zero => simp [fsF]
  | succ n ih =>
    simp only [fsF]
    constructor
    · intro h k hk
      by_cases e0 : fsF f n = 0
      · rw [if_pos e0] at h
        by_cases e : k = n
        · subst e; exact h
        · exact ih.1 e0 k (by omega)
      · rw [if_neg e0] at h; exact absurd h e0
    · intro h
      rw [if_pos (ih.2 fun k hk => h k (by omega))]; exact h n (by omega)
theorem denF_ne {n : Nat} {f : Nat → Int} (h : pgF f n ≠ 0) : denF n f ≠ 0 := by
  unfold denF; split <;> omega
theorem denF_dvd {n k : Nat} {f : Nat → Int} (hk : k < n) : denF n f ∣ f k := by
  unfold denF
  split
  · exact Int.neg_dvd.2 (pgF_dvd f hk)
  · exact pgF_dvd f hk
theorem denF_mul {n : Nat} {c : Int} (hc : c ≠ 0) {f : Nat → Int} (h : pgF f n ≠ 0) : denF n (fun k => c * f k) = c * denF n f := by
  unfold denF
  have hf : fsF f n ≠ 0 := fun e => h (pgF_zero.2 (fsF_zero.1 e))
  rw [pgF_mul, fsF_mul hc]
  rcases Int.lt_or_gt_of_ne hc with h1 | h1 <;> rcases Int.lt_or_gt_of_ne hf with h2 | h2
  · have := Int.mul_pos_of_neg_of_neg h1 h2
    rw [if_neg (by omega), if_pos h2, Int.natCast_mul, Int.ofNat_natAbs_of_nonpos (by omega)]; grind
  · have := Int.mul_neg_of_neg_of_pos h1 h2
    rw [if_pos this, if_neg (by omega), Int.natCast_mul, Int.ofNat_natAbs_of_nonpos (by omega)]; grind
  · have := Int.mul_neg_of_pos_of_neg h1 h2
    rw [if_pos this, if_pos h2, Int.natCast_mul, Int.natAbs_of_nonneg (by omega)]; grind
  · have := Int.mul_pos h1 h2
    rw [if_neg (by omega), if_neg (by omega), Int.natCast_mul, Int.natAbs_of_nonneg (by omega)]
theorem primF_congr {n : Nat} {f h : Nat → Int} (e : ∀ k, k < n → f k = h k) {k : Nat} (hk : k < n) : primF n f k = primF n h k := by
  unfold primF denF
  rw [pgF_congr e, fsF_congr e, e k hk]
theorem primF_scale {n : Nat} {f h : Nat → Int} {c : Int} (hc : c ≠ 0) (e : ∀ k, k < n → f k = c * h k) {k : Nat} (hk : k < n) : primF n f k = primF n h k := by
  rw [primF_congr e hk]
  unfold primF
  rw [pgF_mul]
  by_cases h0 : pgF h n = 0
  · rw [if_pos h0, if_pos (by rw [h0]; rfl)]
    show c * h k = h k
    rw [pgF_zero.1 h0 k hk, Int.mul_zero]
  · rw [if_neg h0, if_neg (fun e => by rcases Nat.mul_eq_zero.1 e with e | e; exact hc (Int.natAbs_eq_zero.1 e); exact h0 e), denF_mul hc h0]
    obtain ⟨z, hz⟩ := denF_dvd (f := h) hk
    have hd := denF_ne h0
    rw [hz, tdiv_exact hd rfl]
    refine tdiv_exact (fun e => ?_) (show c * denF n h * z = c * h k by rw [hz, Int.mul_assoc])
    rcases Int.mul_eq_zero.1 e with e | e
    · exact hc e
    · exact hd e
theorem primF_of (n : Nat) (f : Nat → Int) : ∃ a : Int, a ≠ 0 ∧ ∀ k, k < n → f k = a * primF n f k := by
  unfold primF
  by_cases h : pgF f n = 0
  · exact ⟨1, by decide, fun k _ => by rw [if_pos h, Int.one_mul]⟩
  · refine ⟨denF n f, denF_ne h, fun k hk => ?_⟩
    rw [if_neg h]
    obtain ⟨z, hz⟩ := denF_dvd (f := f) hk
    rw [hz, tdiv_exact (denF_ne h) rfl]
/-! ### the reference's elimination -/
structure SS where
  S : Nat → Nat → Int
  P : List Nat
def woF (a row : Nat → Int) (c k : Nat) : Int := a k * (row c).tdiv (Nat.gcd (a c).natAbs (row c).natAbs) - row k * (a c).tdiv (Nat.gcd (a c).natAbs (row c).natAbs)
def clearF (n : Nat) (S : Nat → Nat → Int) (r c : Nat) : Nat → Nat → Int := fun i => if i = r then S i else if S i c = 0 then S i else primF n (woF (S i) (S r) c)
def stepS (m n c : Nat) (s : SS) : SS :=
  if findF s.S m c s.P.length < m then ⟨clearF n (swapF s.S s.P.length (findF s.S m c s.P.length)) s.P.length c, s.P ++ [c]⟩ else s
def redS (m n : Nat) (F : Nat → Nat → Int) : Nat → SS
  | 0 => ⟨fun i => primF n (F i), []⟩
  | c + 1 => stepS m n c (redS m n F c)

theorem findF_congr {F S : Nat → Nat → Int} {m c : Nat} (h : ∀ i, i < m → (F i c = 0 ↔ S i c = 0)) (p : Nat) : findF F m c p = findF S m c p := by
  fun_induction findF F m c p
  · rename_i p h1 h2 ih
    rw [ih]
    conv => rhs; rw [findF]
    rw [if_pos h1, if_pos ((h _ h1).1 h2)]
  · rename_i p h1 h2
    rw [findF, if_pos h1, if_neg (fun e => h2 ((h _ h1).2 e))]
  · rename_i p h1
    rw [findF, if_neg h1]
theorem wo_prim {n c : Nat} (hc : c < n) {a row f g h : Nat → Int} {d : Int} (hd : d ≠ 0) (ha : ∀ k, k < n → a k = primF n f k) (hr : ∀ k, k < n → row k = primF n g k) (hgc : g c ≠ 0) (hne : a c ≠ 0)
    (e : ∀ k, k < n → d * h k = g c * f k - f c * g k) {k : Nat} (hk : k < n) : primF n (woF a row c) k = primF n h k := by
  obtain ⟨x, hx, ex⟩ := primF_of n f
  obtain ⟨y, hy, ey⟩ := primF_of n g
  have hrc : row c ≠ 0 := fun e0 => hgc (by rw [ey c hc, ← hr c hc, e0, Int.mul_zero])
  generalize hG : Nat.gcd (a c).natAbs (row c).natAbs = G
  have hG0 : G ≠ 0 := by rw [← hG]; intro e0; exact hne (Int.natAbs_eq_zero.1 (Nat.gcd_eq_zero_iff.1 e0).1)
  have hGi : (G : Int) ≠ 0 := by omega
  obtain ⟨u, hu⟩ : (G : Int) ∣ a c := by rw [← hG]; exact Int.ofNat_dvd_left.2 (Nat.gcd_dvd_left _ _)
  obtain ⟨v, hv⟩ : (G : Int) ∣ row c := by rw [← hG]; exact Int.ofNat_dvd_left.2 (Nat.gcd_dvd_right _ _)
  have hw : ∀ k, woF a row c k = a k * v - row k * u := fun k => by
    unfold woF
    rw [hG, hu, hv, tdiv_exact hGi rfl, tdiv_exact hGi rfl]
  have h1 : ∀ k, k < n → d * h k = (x * y * G) * woF a row c k := by
    intro k hk
    rw [e k hk, hw k, ex k hk, ex c hc, ey k hk, ey c hc, ← ha k hk, ← hr k hk, ← ha c hc, ← hr c hc, hu, hv]
    grind
  have h2 : x * y * (G : Int) ≠ 0 := fun e0 => by
    rcases Int.mul_eq_zero.1 e0 with e0 | e0
    · rcases Int.mul_eq_zero.1 e0 with e0 | e0
      · exact hx e0
      · exact hy e0
    · exact hGi e0
  rw [← primF_scale h2 h1 hk, primF_scale hd (fun _ _ => rfl) hk]

/-- both eliminations go the same way -/
theorem red_sim {m n : Nat} (F : Nat → Nat → Int) {c : Nat} (hc : c ≤ n) : (redS m n F c).P = (redF m F c).P ∧ ∀ i, i < m → ∀ k, k < n → (redS m n F c).S i k = primF n ((redF m F c).F i) k := by
  induction c with
  | zero => exact ⟨rfl, fun i _ k _ => rfl⟩
  | succ c ih =>
    obtain ⟨hP, hS⟩ := ih (by omega)
    obtain ⟨X, hI⟩ := Inv.all (m := m) (n := n) F (c := c) (by omega)
    simp only [redS, redF]
    generalize redF m F c = s at *
    generalize redS m n F c = t at *
    have hc' : c < n := by omega
    have hz : ∀ i, i < m → (s.F i c = 0 ↔ t.S i c = 0) := by
      intro i hi
      obtain ⟨a, ha, ea⟩ := primF_of n (s.F i)
      rw [hS i hi c hc', ea c hc']
      constructor
      · intro e0
        rcases Int.mul_eq_zero.1 e0 with e0 | e0
        · exact absurd e0 ha
        · exact e0
      · intro e0; rw [e0, Int.mul_zero]
    unfold stepF stepS
    rw [hP, ← findF_congr hz]
    by_cases h1 : s.P.length < m
    · rw [if_pos h1]
      by_cases h2 : findF s.F m c s.P.length < m
      · rw [if_pos h2, if_pos h2]
        have hp := findF_ge s.F m c s.P.length
        have hne := findF_ne h2
        generalize findF s.F m c s.P.length = p at *
        refine ⟨rfl, fun i hi k hk => ?_⟩
        have hsw : ∀ j, j < m → ∀ k, k < n → swapF t.S s.P.length p j k = primF n (swapF s.F s.P.length p j) k := by
          intro j hj k hk
          unfold swapF
          by_cases e1 : j = s.P.length
          · rw [if_pos e1, if_pos e1]; exact hS p h2 k hk
          · rw [if_neg e1, if_neg e1]
            by_cases e2 : j = p
            · rw [if_pos e2, if_pos e2]; exact hS _ h1 k hk
            · rw [if_neg e2, if_neg e2]; exact hS j hj k hk
        show clearF n (swapF t.S s.P.length p) s.P.length c i k = primF n (elimF (swapF s.F s.P.length p) s.P.length c s.d i) k
        unfold clearF
        by_cases e1 : i = s.P.length
        · subst e1
          rw [if_pos rfl, hsw _ h1 k hk]
          exact primF_congr (fun k hk => by unfold elimF; rw [if_pos rfl]) hk
        · rw [if_neg e1]
          have hm := fun k hk => elim_mul hI hc' hp h2 hi e1 (k := k) hk
          have hr : swapF s.F s.P.length p s.P.length c ≠ 0 := by unfold swapF; rw [if_pos rfl]; exact hne
          by_cases e2 : swapF t.S s.P.length p i c = 0
          · rw [if_pos e2, hsw i hi k hk]
            have e3 : swapF s.F s.P.length p i c = 0 := by
              obtain ⟨a, ha, ea⟩ := primF_of n (swapF s.F s.P.length p i)
              rw [ea c hc', ← hsw i hi c hc', e2, Int.mul_zero]
            rw [← primF_scale hr (fun k hk => rfl) hk]
            rw [← primF_scale (f := fun k => s.d * elimF (swapF s.F s.P.length p) s.P.length c s.d i k) hI.nz (fun k hk => rfl) hk]
            exact (primF_congr (fun k hk => by rw [hm k hk, e3]; omega) hk).symm
          · rw [if_neg e2]
            exact wo_prim hc' hI.nz (hsw i hi) (hsw _ h1) hr e2 (fun k hk => hm k hk) hk
      · rw [if_neg h2, if_neg h2]; exact ⟨hP, hS⟩
    · have h3 : ¬ findF s.F m c s.P.length < m := by have := findF_ge s.F m c s.P.length; omega
      rw [if_neg h1, if_neg h3]; exact ⟨hP, hS⟩

/-! ### sums over the first n numbers -/
/-! ### bounds on what arises -/
/-- the rows of X are those of F in another order -/
def Per (m : Nat) (F X : Nat → Nat → Int) : Prop := ∃ f g : Nat → Nat, (∀ i, i < m → f i < m ∧ g (f i) = i ∧ X i = F (f i)) ∧ ∀ i, i < m → g i < m ∧ f (g i) = i
theorem Per.swap {m : Nat} {F X : Nat → Nat → Int} (h : Per m F X) {r p : Nat} (h1 : r < m) (h2 : p < m) : Per m F (swapF X r p) := by
  obtain ⟨f, g, hf, hg⟩ := h
  refine ⟨fun i => if i = r then f p else if i = p then f r else f i, fun j => if g j = r then p else if g j = p then r else g j, fun i hi => ?_, fun i hi => ?_⟩
  · have a1 := hf i hi
    have a2 := hf p h2
    have a3 := hf r h1
    by_cases e1 : i = r
    · subst e1
      simp only [if_true]
      refine ⟨a2.1, ?_, by unfold swapF; rw [if_pos rfl]; exact a2.2.2⟩
      rw [a2.2.1]
      by_cases e : p = i
      · rw [if_pos e, e]
      · rw [if_neg e, if_pos rfl]
    · by_cases e2 : i = p
      · subst e2
        simp only [if_neg e1, if_true]
        refine ⟨a3.1, ?_, by unfold swapF; rw [if_neg e1, if_pos rfl]; exact a3.2.2⟩
        rw [a3.2.1, if_pos rfl]
      · simp only [if_neg e1, if_neg e2]
        refine ⟨a1.1, ?_, by unfold swapF; rw [if_neg e1, if_neg e2]; exact a1.2.2⟩
        rw [a1.2.1, if_neg e1, if_neg e2]
  · have b1 := hg i hi
    by_cases e1 : g i = r
    · simp only [if_pos e1]
      refine ⟨h2, ?_⟩
      by_cases e : p = r
      · rw [if_pos e, e, ← e1]; exact b1.2
      · rw [if_neg e, if_pos trivial, ← e1]; exact b1.2
    · by_cases e2 : g i = p
      · simp only [if_neg e1, if_pos e2]
        refine ⟨h1, ?_⟩
        rw [if_pos trivial, ← e2]; exact b1.2
      · simp only [if_neg e1, if_neg e2]
        exact b1
/-- the squares of all minors are at most B -/
def Bnd (m n : Nat) (F : Nat → Nat → Int) (B : Int) : Prop := ∀ X, Per m F X → ∀ c : List Nat, (∀ j ∈ c, j < n) → c.length ≤ m → kf n c (wl n (rows X c.length)) * kf n c (wl n (rows X c.length)) ≤ B
theorem Bnd.num {m n : Nat} {F : Nat → Nat → Int} {B : Int} (hB : Bnd m n F B) {s : ES} {X : Nat → Nat → Int} (h : Inv m n F s X) {i k : Nat} (hi : i < m) (hk : k < n) : s.F i k * s.F i k ≤ B := by
  by_cases hl : i < s.P.length
  · rw [h.up i hl k hk]
    have hlen : ((s.P.drop (i + 1)).reverse ++ k :: (s.P.take i).reverse).length = s.P.length := by simp; omega
    have := hB X h.perm ((s.P.drop (i + 1)).reverse ++ k :: (s.P.take i).reverse) (fun j hj => by
      rcases List.mem_append.1 hj with hj | hj
      · exact h.cols j (List.mem_of_mem_drop (List.mem_reverse.1 hj))
      · rcases List.mem_cons.1 hj with hj | hj
        · omega
        · exact h.cols j (List.mem_of_mem_take (List.mem_reverse.1 hj))) (by rw [hlen]; exact h.len)
    rwa [hlen] at this
  · rw [h.low i (by omega) hi k hk]
    have hr : s.P.length < m := by omega
    have := hB (swapF X s.P.length i) (Per.swap h.perm hr hi) (k :: s.P.reverse) (fun j hj => by
      rcases List.mem_cons.1 hj with hj | hj
      · omega
      · exact h.cols j (List.mem_reverse.1 hj)) (by simp; omega)
    have hlen : (k :: s.P.reverse).length = s.P.length + 1 := by simp
    rw [hlen] at this
    have e1 : swapF X s.P.length i s.P.length = X i := by unfold swapF; rw [if_pos rfl]
    have e2 : rows (swapF X s.P.length i) s.P.length = rows X s.P.length := rows_congr fun j hj => by
      unfold swapF; rw [if_neg (by omega), if_neg (by omega)]
    simp only [rows] at this
    rw [e1, e2] at this
    exact this
theorem Bnd.last {m n : Nat} {F : Nat → Nat → Int} {B : Int} (hB : Bnd m n F B) {s : ES} {X : Nat → Nat → Int} (h : Inv m n F s X) : s.d * s.d ≤ B := by
  rw [h.d]
  have := hB X h.perm s.P.reverse (fun j hj => h.cols j (List.mem_reverse.1 hj)) (by simp; exact h.len)
  rwa [List.length_reverse] at this
/-! by the columns -/
section
variable {m n : Nat} {F0 : Nat → Nat → Int} {s : ES} {X : Nat → Nat → Int} {S : Nat → Nat → Int}
end
end Gr

