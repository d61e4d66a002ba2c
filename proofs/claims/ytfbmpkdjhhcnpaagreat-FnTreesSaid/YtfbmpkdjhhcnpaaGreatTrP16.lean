/- Plain mathematics: products of vectors (forms), minors as their coefficients, and bounds on them. No condition. -/
namespace Gr
set_option linter.unusedVariables false
set_option linter.unusedSimpArgs false

/-- forms on n coordinates: the part without the last one, the part with it -/
def Form : Nat → Type
  | 0 => Int
  | n + 1 => Form n × Form n

def fz : (n : Nat) → Form n
  | 0 => (0 : Int)
  | n + 1 => (fz n, fz n)
def one : (n : Nat) → Form n
  | 0 => (1 : Int)
  | n + 1 => (one n, fz n)
def fadd : (n : Nat) → Form n → Form n → Form n
  | 0, a, b => Int.add a b
  | n + 1, a, b => (fadd n a.1 b.1, fadd n a.2 b.2)
def fmul : (n : Nat) → Int → Form n → Form n
  | 0, c, a => Int.mul c a
  | n + 1, c, a => (fmul n c a.1, fmul n c a.2)
def fw : (n : Nat) → (Nat → Int) → Form n → Form n
  | 0, _, _ => (0 : Int)
  | n + 1, x, a => (fw n x a.1, fadd n (fmul n (x n) a.1) (fmul n (-1) (fw n x a.2)))
def fi : (n : Nat) → Nat → Form n → Form n
  | 0, _, _ => (0 : Int)
  | n + 1, k, a => if k = n then (a.2, fz n) else (fi n k a.1, fmul n (-1) (fi n k a.2))
def sc : (n : Nat) → Form n → Int
  | 0, a => a
  | n + 1, a => sc n a.1
def nrm : (n : Nat) → Form n → Int
  | 0, a => Int.mul a a
  | n + 1, a => nrm n a.1 + nrm n a.2
def dotf : (n : Nat) → Form n → Form n → Int
  | 0, a, b => Int.mul a b
  | n + 1, a, b => dotf n a.1 b.1 + dotf n a.2 b.2
/-- a coefficient -/
def co : (n : Nat) → Form n → (Nat → Bool) → Int
  | 0, a, _ => a
  | n + 1, a, s => if s n then co n a.2 s else co n a.1 s

theorem co_congr {n : Nat} {a : Form n} {s t : Nat → Bool} (h : ∀ k, k < n → s k = t k) : co n a s = co n a t := by
  induction n with
  | zero => rfl
  | succ n ih =>
    simp only [co]
    rw [h n (Nat.lt_succ_self n), ih (a := a.1) fun k hk => h k (Nat.lt_succ_of_lt hk), ih (a := a.2) fun k hk => h k (Nat.lt_succ_of_lt hk)]
theorem co_ext {n : Nat} {a b : Form n} (h : ∀ s, co n a s = co n b s) : a = b := by
  induction n with
  | zero => exact h fun _ => false
  | succ n ih =>
    refine Prod.ext (ih fun s => ?_) (ih fun s => ?_)
    · have h1 := h fun k => if k = n then false else s k
      simp only [co, ite_true, Bool.false_eq_true, ite_false] at h1
      rw [co_congr (t := s), co_congr (a := b.1) (t := s)] at h1
      · exact h1
      all_goals
        intro k hk
        simp [Nat.ne_of_lt hk]
    · have h1 := h fun k => if k = n then true else s k
      simp only [co, ite_true] at h1
      rw [co_congr (t := s), co_congr (a := b.2) (t := s)] at h1
      · exact h1
      all_goals
        intro k hk
        simp [Nat.ne_of_lt hk]
theorem co_fz (n : Nat) (s : Nat → Bool) : co n (fz n) s = 0 := by
  induction n with
  | zero => rfl
  | succ n ih => simp only [co, fz, ih, ite_self]
theorem co_add (n : Nat) (a b : Form n) (s : Nat → Bool) : co n (fadd n a b) s = co n a s + co n b s := by
  induction n with
  | zero => rfl
  | succ n ih =>
    simp only [co, fadd, ih]
    split <;> rfl
theorem co_mul (n : Nat) (c : Int) (a : Form n) (s : Nat → Bool) : co n (fmul n c a) s = c * co n a s := by
  induction n with
  | zero => rfl
  | succ n ih =>
    simp only [co, fmul, ih]
    split <;> rfl

def lo {n : Nat} (a : Form (n + 1)) : Form n := a.1
def hi {n : Nat} (a : Form (n + 1)) : Form n := a.2
theorem fext {n : Nat} {a b : Form (n + 1)} (h : lo a = lo b) (k : hi a = hi b) : a = b := Prod.ext h k
section
variable {n : Nat} (a b : Form (n + 1)) (c : Int) (x : Nat → Int) (k : Nat)
theorem lo_add : lo (fadd (n + 1) a b) = fadd n (lo a) (lo b) := rfl
theorem hi_add : hi (fadd (n + 1) a b) = fadd n (hi a) (hi b) := rfl
theorem lo_mul : lo (fmul (n + 1) c a) = fmul n c (lo a) := rfl
theorem hi_mul : hi (fmul (n + 1) c a) = fmul n c (hi a) := rfl
theorem lo_fw : lo (fw (n + 1) x a) = fw n x (lo a) := rfl
theorem hi_fw : hi (fw (n + 1) x a) = fadd n (fmul n (x n) (lo a)) (fmul n (-1) (fw n x (hi a))) := rfl
theorem lo_fi (h : ¬ k = n) : lo (fi (n + 1) k a) = fi n k (lo a) := by show (ite _ _ _ : Form n × Form n).1 = _; rw [if_neg h]; rfl
theorem hi_fi (h : ¬ k = n) : hi (fi (n + 1) k a) = fmul n (-1) (fi n k (hi a)) := by show (ite _ _ _ : Form n × Form n).2 = _; rw [if_neg h]; rfl
theorem lo_fi' (h : k = n) : lo (fi (n + 1) k a) = hi a := by show (ite _ _ _ : Form n × Form n).1 = _; rw [if_pos h]; rfl
theorem hi_fi' (h : k = n) : hi (fi (n + 1) k a) = fz n := by show (ite _ _ _ : Form n × Form n).2 = _; rw [if_pos h]
end

theorem fmul_fz (n : Nat) (c : Int) : fmul n c (fz n) = fz n := co_ext fun s => by simp [co_mul, co_fz]
theorem fadd_fz (n : Nat) : fadd n (fz n) (fz n) = fz n := co_ext fun s => by simp [co_add, co_fz]
theorem fmul_mul (n : Nat) (c d : Int) (a : Form n) : fmul n c (fmul n d a) = fmul n (c * d) a := co_ext fun s => by simp [co_mul, Int.mul_assoc]
theorem fi_add (n k : Nat) (a b : Form n) : fi n k (fadd n a b) = fadd n (fi n k a) (fi n k b) := by
  induction n with
  | zero => rfl
  | succ n ih =>
    by_cases h : k = n
    · exact fext (by simp only [lo_fi' _ _ h, lo_add, hi_add]) (by simp only [hi_fi' _ _ h, hi_add, fadd_fz])
    · refine fext (by simp only [lo_fi _ _ h, lo_add, ih]) ?_
      simp only [hi_fi _ _ h, hi_add, ih]
      refine co_ext fun s => ?_
      simp only [co_add, co_mul]; grind
theorem fi_mul (n k : Nat) (c : Int) (a : Form n) : fi n k (fmul n c a) = fmul n c (fi n k a) := by
  induction n with
  | zero => exact (Int.mul_zero c).symm
  | succ n ih =>
    by_cases h : k = n
    · exact fext (by simp only [lo_fi' _ _ h, lo_mul, hi_mul]) (by simp only [hi_fi' _ _ h, hi_mul, fmul_fz])
    · refine fext (by simp only [lo_fi _ _ h, lo_mul, ih]) ?_
      simp only [hi_fi _ _ h, hi_mul, ih]
      refine co_ext fun s => ?_
      simp only [co_mul]; grind
theorem fw_add (n : Nat) (x : Nat → Int) (a b : Form n) : fw n x (fadd n a b) = fadd n (fw n x a) (fw n x b) := by
  induction n with
  | zero => rfl
  | succ n ih =>
    refine fext (by simp only [lo_fw, lo_add, ih]) ?_
    simp only [hi_fw, hi_add, lo_add, ih]
    refine co_ext fun s => ?_
    simp only [co_add, co_mul]; grind
theorem fw_mul (n : Nat) (x : Nat → Int) (c : Int) (a : Form n) : fw n x (fmul n c a) = fmul n c (fw n x a) := by
  induction n with
  | zero => exact (Int.mul_zero c).symm
  | succ n ih =>
    refine fext (by simp only [lo_fw, lo_mul, ih]) ?_
    simp only [hi_fw, hi_mul, lo_mul, ih]
    refine co_ext fun s => ?_
    simp only [co_add, co_mul]; grind
theorem fw_lin (n : Nat) (x y : Nat → Int) (c d : Int) (a : Form n) : fw n (fun k => c * x k + d * y k) a = fadd n (fmul n c (fw n x a)) (fmul n d (fw n y a)) := by
  induction n with
  | zero => refine co_ext (n := 0) fun s => ?_; simp only [co_add, co_mul]; simp [co, fw]
  | succ n ih =>
    refine fext (by simp only [lo_fw, lo_add, lo_mul, ih]) ?_
    simp only [hi_fw, hi_add, hi_mul, ih]
    refine co_ext fun s => ?_
    simp only [co_add, co_mul]; grind
theorem fw_congr {n : Nat} {x y : Nat → Int} (h : ∀ k, k < n → x k = y k) (a : Form n) : fw n x a = fw n y a := by
  induction n with
  | zero => rfl
  | succ n ih =>
    have ih' := ih (fun k hk => h k (Nat.lt_succ_of_lt hk))
    refine fext (by simp only [lo_fw, ih']) (by simp only [hi_fw, ih', h n (Nat.lt_succ_self n)])
theorem fw_anti (n : Nat) (x y : Nat → Int) (a : Form n) : fw n x (fw n y a) = fmul n (-1) (fw n y (fw n x a)) := by
  induction n with
  | zero => rfl
  | succ n ih =>
    refine fext (by simp only [lo_fw, lo_mul]; exact ih _) ?_
    simp only [hi_fw, lo_fw, hi_mul, fw_add, fw_mul, ih (hi a)]
    refine co_ext fun s => ?_
    simp only [co_add, co_mul]; grind
theorem fw_sq (n : Nat) (x : Nat → Int) (a : Form n) : fw n x (fw n x a) = fz n := by
  refine co_ext fun s => ?_
  have h := congrArg (fun z => co n z s) (fw_anti n x x a)
  simp only [co_mul] at h
  rw [co_fz]; omega
theorem fi_fz (n j : Nat) : fi n j (fz n) = fz n := by
  have h := fi_mul n j 0 (fz n)
  rw [fmul_fz] at h
  exact co_ext fun s => by rw [h, co_mul, co_fz, Int.zero_mul]
theorem fw_fz (n : Nat) (x : Nat → Int) : fw n x (fz n) = fz n := by
  have h := fw_mul n x 0 (fz n)
  rw [fmul_fz] at h
  exact co_ext fun s => by rw [h, co_mul, co_fz, Int.zero_mul]
theorem fi_anti (n j k : Nat) (a : Form n) : fi n j (fi n k a) = fmul n (-1) (fi n k (fi n j a)) := by
  induction n with
  | zero => rfl
  | succ n ih =>
    by_cases hj : j = n <;> by_cases hk : k = n
    · exact fext (by simp only [lo_fi' _ _ hj, lo_fi' _ _ hk, hi_fi' _ _ hj, hi_fi' _ _ hk, lo_mul, fmul_fz]) (by simp only [hi_fi' _ _ hj, hi_fi' _ _ hk, hi_mul, fmul_fz])
    · exact fext (by simp only [lo_fi' _ _ hj, lo_fi _ _ hk, hi_fi _ _ hk, lo_mul]) (by simp only [hi_fi' _ _ hj, hi_fi _ _ hk, hi_mul, fmul_fz, fi_fz])
    · refine fext (by simp only [lo_fi' _ _ hk, lo_fi _ _ hj, hi_fi _ _ hj, lo_mul, fmul_mul]; exact co_ext fun s => by simp [co_mul]) (by simp only [hi_fi' _ _ hk, hi_fi _ _ hj, hi_mul, fmul_fz, fi_fz])
    · refine fext (by simp only [lo_fi _ _ hk, lo_fi _ _ hj, lo_mul]; exact ih _) ?_
      simp only [hi_fi _ _ hk, hi_fi _ _ hj, hi_mul, fi_mul]
      rw [ih (hi a)]
theorem fi_sq (n k : Nat) (a : Form n) : fi n k (fi n k a) = fz n := by
  refine co_ext fun s => ?_
  have h := congrArg (fun z => co n z s) (fi_anti n k k a)
  simp only [co_mul] at h
  rw [co_fz]; omega
theorem fi_fw {n k : Nat} (h : k < n) (x : Nat → Int) (a : Form n) : fi n k (fw n x a) = fadd n (fmul n (x k) a) (fmul n (-1) (fw n x (fi n k a))) := by
  induction n with
  | zero => omega
  | succ n ih =>
    by_cases hk : k = n
    · have e := hk
      subst e
      refine fext ?_ ?_
      · simp only [lo_fi' _ _ hk, hi_fw, lo_add, lo_mul, lo_fw]
      · simp only [hi_fi' _ _ hk, hi_add, hi_mul, hi_fw, lo_fi' _ _ hk, fw_fz]
        refine co_ext fun s => ?_
        simp only [co_add, co_mul, co_fz]; grind
    · have hk' : k < n := by omega
      refine fext ?_ ?_
      · simp only [lo_fi _ _ hk, lo_fw, lo_add, lo_mul]
        exact ih hk' _
      · simp only [hi_fi _ _ hk, hi_add, hi_mul, hi_fw, lo_fi _ _ hk, fi_add, fi_mul, fw_mul, ih hk']
        refine co_ext fun s => ?_
        simp only [co_add, co_mul]; grind
theorem sc_add (n : Nat) (a b : Form n) : sc n (fadd n a b) = sc n a + sc n b := by
  induction n with
  | zero => rfl
  | succ n ih => exact ih _ _
theorem sc_mul (n : Nat) (c : Int) (a : Form n) : sc n (fmul n c a) = c * sc n a := by
  induction n with
  | zero => rfl
  | succ n ih => exact ih _
theorem sc_fz (n : Nat) : sc n (fz n) = 0 := by
  induction n with
  | zero => rfl
  | succ n ih => exact ih
theorem sc_one (n : Nat) : sc n (one n) = 1 := by
  induction n with
  | zero => rfl
  | succ n ih => exact ih
theorem sc_fw (n : Nat) (x : Nat → Int) (a : Form n) : sc n (fw n x a) = 0 := by
  induction n with
  | zero => rfl
  | succ n ih => exact ih _

/-! ### norms -/
theorem mul_self_nonneg' (x : Int) : 0 ≤ x * x := by
  rcases Int.le_total 0 x with h | h
  · exact Int.mul_nonneg h h
  · have := Int.mul_nonneg (Int.neg_nonneg.2 h) (Int.neg_nonneg.2 h)
    rwa [Int.neg_mul_neg] at this
theorem nrm_nonneg (n : Nat) (a : Form n) : 0 ≤ nrm n a := by
  induction n with
  | zero => exact mul_self_nonneg' a
  | succ n ih => exact Int.add_nonneg (ih _) (ih _)
theorem nrm_dot (n : Nat) (a : Form n) : nrm n a = dotf n a a := by
  induction n with
  | zero => rfl
  | succ n ih => simp only [nrm, dotf, ih]
theorem dot_add (n : Nat) (a b c : Form n) : dotf n (fadd n a b) c = dotf n a c + dotf n b c := by
  induction n with
  | zero => exact Int.add_mul a b c
  | succ n ih => simp only [dotf, fadd, ih]; omega
theorem dot_mul (n : Nat) (k : Int) (a c : Form n) : dotf n (fmul n k a) c = k * dotf n a c := by
  induction n with
  | zero => exact Int.mul_assoc k a c
  | succ n ih => simp only [dotf, fmul, ih]; grind
theorem dot_comm (n : Nat) (a b : Form n) : dotf n a b = dotf n b a := by
  induction n with
  | zero => exact Int.mul_comm a b
  | succ n ih => simp only [dotf]; rw [ih a.1, ih a.2]
theorem dot_fz (n : Nat) (a : Form n) : dotf n (fz n) a = 0 := by
  induction n with
  | zero => exact Int.zero_mul a
  | succ n ih => simp only [dotf, fz, ih]; rfl
/-- contraction with a vector -/
def fv : (n : Nat) → (Nat → Int) → Form n → Form n
  | 0, _, _ => (0 : Int)
  | n + 1, x, a => (fadd n (fv n x a.1) (fmul n (x n) a.2), fmul n (-1) (fv n x a.2))
theorem dot_fw (n : Nat) (x : Nat → Int) (a b : Form n) : dotf n a (fw n x b) = dotf n (fv n x a) b := by
  induction n with
  | zero => show Int.mul a 0 = Int.mul 0 b; exact (Int.mul_zero a).trans (Int.zero_mul b).symm
  | succ n ih =>
    show dotf n (lo a) (fw n x (lo b)) + dotf n (hi a) (fadd n (fmul n (x n) (lo b)) (fmul n (-1) (fw n x (hi b)))) = dotf n (fadd n (fv n x (lo a)) (fmul n (x n) (hi a))) (lo b) + dotf n (fmul n (-1) (fv n x (hi a))) (hi b)
    rw [ih, dot_comm n (hi a), dot_add, dot_mul, dot_mul, dot_add, dot_mul, dot_mul, dot_comm n (fw n x (hi b)), ih, dot_comm n (lo b)]
    omega
/-- the sum of the squares of the first n numbers -/
def sq : Nat → (Nat → Int) → Int
  | 0, _ => 0
  | n + 1, x => sq n x + x n * x n
theorem nrm_add (n : Nat) (a b : Form n) : nrm n (fadd n a b) = nrm n a + 2 * dotf n a b + nrm n b := by
  rw [nrm_dot, dot_add, dot_comm n a, dot_comm n b, dot_add, dot_add, ← nrm_dot, ← nrm_dot, dot_comm n b a]
  omega
theorem nrm_mul (n : Nat) (k : Int) (a : Form n) : nrm n (fmul n k a) = k * k * nrm n a := by
  rw [nrm_dot, dot_mul, dot_comm, dot_mul, ← nrm_dot]; grind
theorem nrm_lohi (n : Nat) (a : Form (n + 1)) : nrm (n + 1) a = nrm n (lo a) + nrm n (hi a) := rfl
theorem nrm_both (n : Nat) (x : Nat → Int) (a : Form n) : nrm n (fw n x a) + nrm n (fv n x a) = sq n x * nrm n a := by
  induction n with
  | zero => show (0 : Int) * 0 + 0 * 0 = 0 * _; simp
  | succ n ih =>
    have e1 : nrm (n + 1) (fw (n + 1) x a) = nrm n (fw n x (lo a)) + nrm n (fadd n (fmul n (x n) (lo a)) (fmul n (-1) (fw n x (hi a)))) := rfl
    have e2 : nrm (n + 1) (fv (n + 1) x a) = nrm n (fadd n (fv n x (lo a)) (fmul n (x n) (hi a))) + nrm n (fmul n (-1) (fv n x (hi a))) := rfl
    rw [e1, e2, nrm_lohi, nrm_add, nrm_add, nrm_mul, nrm_mul, nrm_mul, nrm_mul]
    have h1 := ih (lo a)
    have h2 := ih (hi a)
    have h3 : dotf n (fmul n (x n) (lo a)) (fmul n (-1) (fw n x (hi a))) = - x n * dotf n (fv n x (lo a)) (hi a) := by
      rw [dot_mul, dot_comm, dot_mul, dot_comm, dot_fw]; grind
    have h4 : dotf n (fv n x (lo a)) (fmul n (x n) (hi a)) = x n * dotf n (fv n x (lo a)) (hi a) := by
      rw [dot_comm, dot_mul, dot_comm]
    rw [h3, h4]
    simp only [sq]
    grind
theorem nrm_fw (n : Nat) (x : Nat → Int) (a : Form n) : nrm n (fw n x a) ≤ sq n x * nrm n a := by
  have := nrm_both n x a
  have := nrm_nonneg n (fv n x a)
  omega
theorem nrm_fz (n : Nat) : nrm n (fz n) = 0 := by rw [nrm_dot, dot_fz]
theorem nrm_fi (n k : Nat) (a : Form n) : nrm n (fi n k a) ≤ nrm n a := by
  induction n with
  | zero => exact mul_self_nonneg' a
  | succ n ih =>
    rw [nrm_lohi, nrm_lohi]
    by_cases h : k = n
    · rw [lo_fi' _ _ h, hi_fi' _ _ h, nrm_fz]
      have := nrm_nonneg n (lo a)
      omega
    · rw [lo_fi _ _ h, hi_fi _ _ h, nrm_mul]
      have := ih (lo a)
      have := ih (hi a)
      omega
theorem nrm_one (n : Nat) : nrm n (one n) = 1 := by
  induction n with
  | zero => rfl
  | succ n ih => simp only [nrm, one, ih, nrm_fz]; rfl
theorem sc_le (n : Nat) (a : Form n) : sc n a * sc n a ≤ nrm n a := by
  induction n with
  | zero => exact Int.le_refl _
  | succ n ih =>
    have := ih a.1
    have := nrm_nonneg n a.2
    simp only [sc, nrm]; omega

/-! ### contracting columns -/
/-- the columns of a list contracted, the first first, and the number that is left -/
def kf (n : Nat) : List Nat → Form n → Int
  | [], a => sc n a
  | q :: c, a => kf n c (fi n q a)
theorem kf_add (n : Nat) (c : List Nat) (a b : Form n) : kf n c (fadd n a b) = kf n c a + kf n c b := by
  induction c generalizing a b with
  | nil => exact sc_add n a b
  | cons q c ih => simp only [kf, fi_add, ih]
theorem kf_mul (n : Nat) (c : List Nat) (k : Int) (a : Form n) : kf n c (fmul n k a) = k * kf n c a := by
  induction c generalizing a with
  | nil => exact sc_mul n k a
  | cons q c ih => simp only [kf, fi_mul, ih]
theorem kf_fz (n : Nat) (c : List Nat) : kf n c (fz n) = 0 := by
  induction c with
  | nil => exact sc_fz n
  | cons q c ih => simp only [kf, fi_fz, ih]
theorem kf_van {n : Nat} {c : List Nat} (hc : ∀ j ∈ c, j < n) {x : Nat → Int} (hx : ∀ j ∈ c, x j = 0) (a : Form n) : kf n c (fw n x a) = 0 := by
  induction c generalizing a with
  | nil => exact sc_fw n x a
  | cons q c ih =>
    simp only [kf]
    rw [fi_fw (hc q (by simp)), kf_add, kf_mul, kf_mul, hx q (by simp), ih (fun j hj => hc j (by simp [hj])) (fun j hj => hx j (by simp [hj]))]
    simp
theorem kf_fi_van {n : Nat} {c : List Nat} (hc : ∀ j ∈ c, j < n) {x : Nat → Int} (hx : ∀ j ∈ c, x j = 0) {k : Nat} (hk : k < n) (a : Form n) : kf n c (fi n k (fw n x a)) = x k * kf n c a := by
  rw [fi_fw hk, kf_add, kf_mul, kf_mul, kf_van hc hx]; simp
theorem kf_mem {n : Nat} {c : List Nat} {k : Nat} (h : k ∈ c) (a : Form n) : kf n c (fi n k a) = 0 := by
  induction c generalizing a with
  | nil => simp at h
  | cons q c ih =>
    simp only [kf]
    by_cases hq : k = q
    · subst hq; rw [fi_sq, kf_fz]
    · rw [fi_anti, kf_mul, ih (by simpa [hq] using h)]; simp
/-- one column in the midst of others, of a vector that vanishes at the others -/
theorem kf_mid {n : Nat} (a b : List Nat) (k q : Nat) (hk : k < n) (ha : ∀ j ∈ a, j < n) (hb : ∀ j ∈ b, j < n) {x : Nat → Int} (hxa : ∀ j ∈ a, x j = 0) (hxb : ∀ j ∈ b, x j = 0) (w : Form n) :
    kf n (a ++ k :: b) (fw n x (fi n q w)) = x k * kf n (a ++ q :: b) w := by
  induction a generalizing w with
  | nil =>
    simp only [List.nil_append, kf]
    rw [kf_fi_van hb hxb hk]
  | cons p a ih =>
    simp only [List.cons_append, kf]
    have h1 : fi n p (fw n x (fi n q w)) = fw n x (fi n q (fi n p w)) := by
      rw [fi_fw (ha p (by simp)), hxa p (by simp), fi_anti n p q, fw_mul]
      exact co_ext fun s => by simp only [co_add, co_mul]; grind
    rw [h1, ih (fun j hj => ha j (by simp [hj])) (fun j hj => hxa j (by simp [hj]))]

/-- the product of vectors, the last one first -/
def wl (n : Nat) : List (Nat → Int) → Form n
  | [] => one n
  | x :: l => fw n x (wl n l)
theorem fi_one (n k : Nat) : fi n k (one n) = fz n := by
  induction n with
  | zero => rfl
  | succ n ih =>
    by_cases h : k = n
    · exact fext (by rw [lo_fi' _ _ h]; rfl) (by rw [hi_fi' _ _ h]; rfl)
    · exact fext (by rw [lo_fi _ _ h]; exact ih) (by rw [hi_fi _ _ h]; show fmul n (-1) (fi n k (fz n)) = fz n; rw [fi_fz, fmul_fz])
theorem fw_zero (n : Nat) (a : Form n) : fw n (fun _ => 0) a = fz n := by
  have h := fw_lin n (fun _ => 0) (fun _ => 0) 0 0 a
  simp only [Int.zero_mul, Int.add_zero] at h
  rw [h]; exact co_ext fun s => by simp [co_add, co_mul, co_fz]
theorem comb (n : Nat) (l : List (Nat → Int)) (L : Form n → Int) (hadd : ∀ a b, L (fadd n a b) = L a + L b) (hmul : ∀ c a, L (fmul n c a) = c * L a) :
    fw n (fun k => L (fi n k (wl n l))) (wl n l) = fz n := by
  induction l generalizing L with
  | nil =>
    have h0 : L (fz n) = 0 := by have := hmul 0 (fz n); rwa [fmul_fz, Int.zero_mul] at this
    have e : (fun k => L (fi n k (wl n []))) = fun _ => 0 := by funext k; simp only [wl, fi_one, h0]
    rw [e, fw_zero]
  | cons x l ih =>
    have h1 := ih (fun a => L (fw n x a)) (fun a b => by simp only [fw_add, hadd]) (fun c a => by simp only [fw_mul, hmul])
    simp only [wl]
    rw [fw_congr (y := fun k => L (wl n l) * x k + (-1) * L (fw n x (fi n k (wl n l)))) (fun k hk => by rw [fi_fw hk, hadd, hmul, hmul]; grind)]
    rw [fw_lin, fw_sq, fw_anti n (fun k => L (fw n x (fi n k (wl n l)))), h1, fw_fz]
    simp only [fmul_fz, fadd_fz]

/-- what a row x is turned into by the rows R and their columns c -/
def ev (n : Nat) (c : List Nat) (R : List (Nat → Int)) (x : Nat → Int) (k : Nat) : Int := kf n c (fi n k (fw n x (wl n R)))
theorem ev_van {n : Nat} {c : List Nat} {R : List (Nat → Int)} {x : Nat → Int} : ∀ j ∈ c, ev n c R x j = 0 := fun j hj => kf_mem hj _
theorem ev_eq {n : Nat} {c : List Nat} {R : List (Nat → Int)} {x : Nat → Int} {k : Nat} (hk : k < n) : ev n c R x k = kf n c (wl n R) * x k - kf n c (fw n x (fi n k (wl n R))) := by
  unfold ev
  rw [fi_fw hk, kf_add, kf_mul, kf_mul]; grind
theorem ev_wl (n : Nat) (c : List Nat) (R : List (Nat → Int)) (x : Nat → Int) : fmul n (kf n c (wl n R)) (fw n x (wl n R)) = fw n (ev n c R x) (wl n R) := by
  rw [fw_congr (x := ev n c R x) (y := fun k => kf n c (wl n R) * x k + (-1) * kf n c (fw n x (fi n k (wl n R)))) (fun k hk => by rw [ev_eq hk]; omega)]
  rw [fw_lin, comb n R (fun a => kf n c (fw n x a)) (fun a b => by rw [fw_add, kf_add]) (fun e a => by rw [fw_mul, kf_mul])]
  exact co_ext fun s => by simp only [co_add, co_mul, co_fz]; grind

/-- a step of the elimination, for a row that has no column yet -/
theorem ev_step {n : Nat} {c : List Nat} {R : List (Nat → Int)} {x y : Nat → Int} {q k : Nat} (hc : ∀ j ∈ c, j < n) (hq : q < n) (hk : k < n) (hd : kf n c (wl n R) ≠ 0) :
    kf n c (wl n R) * ev n (q :: c) (y :: R) x k = ev n c R y q * ev n c R x k - ev n c R x q * ev n c R y k := by
  have h1 : fmul n (kf n c (wl n R)) (fmul n (kf n c (wl n R)) (fw n x (fw n y (wl n R)))) = fw n (ev n c R x) (fw n (ev n c R y) (wl n R)) := by
    rw [← ev_wl n c R y, fw_mul, fw_anti n (ev n c R x), ← ev_wl n c R x, fw_mul, fw_anti n y x]
    exact co_ext fun s => by simp only [co_mul]; grind
  have h2 : kf n c (fi n q (fi n k (fmul n (kf n c (wl n R)) (fmul n (kf n c (wl n R)) (fw n x (fw n y (wl n R))))))) = kf n c (wl n R) * (kf n c (wl n R) * ev n (q :: c) (y :: R) x k) := by
    simp only [fi_mul, kf_mul]; rfl
  have hx : ∀ j ∈ c, ev n c R x j = 0 := ev_van
  have hy : ∀ j ∈ c, ev n c R y j = 0 := ev_van
  rw [h1, fi_fw hk, fi_add, fi_mul, fi_mul, kf_add, kf_mul, kf_mul, kf_fi_van hc hy hq, kf_fi_van hc hx hq, kf_fi_van hc hy hk] at h2
  have h3 : kf n c (wl n R) * (kf n c (wl n R) * ev n (q :: c) (y :: R) x k) = kf n c (wl n R) * (ev n c R y q * ev n c R x k - ev n c R x q * ev n c R y k) := by rw [← h2]; grind
  exact Int.eq_of_mul_eq_mul_left hd h3

/-- .. and for a row that has one: its column in the midst of the others -/
theorem nv_step {n : Nat} {a b : List Nat} {p : Nat} {R : List (Nat → Int)} {y : Nat → Int} {q k : Nat} (hc : ∀ j ∈ a ++ p :: b, j < n) (hq : q < n) (hk : k < n) :
    kf n (a ++ p :: b) (wl n R) * kf n (q :: (a ++ k :: b)) (wl n (y :: R)) = ev n (a ++ p :: b) R y q * kf n (a ++ k :: b) (wl n R) - kf n (a ++ q :: b) (wl n R) * ev n (a ++ p :: b) R y k := by
  have ha : ∀ j ∈ a, j < n := fun j hj => hc j (by simp [hj])
  have hb : ∀ j ∈ b, j < n := fun j hj => hc j (by simp [hj])
  have hya : ∀ j ∈ a, ev n (a ++ p :: b) R y j = 0 := fun j hj => ev_van j (by simp [hj])
  have hyb : ∀ j ∈ b, ev n (a ++ p :: b) R y j = 0 := fun j hj => ev_van j (by simp [hj])
  have h1 : kf n (a ++ p :: b) (wl n R) * kf n (q :: (a ++ k :: b)) (wl n (y :: R)) = kf n (a ++ k :: b) (fi n q (fw n (ev n (a ++ p :: b) R y) (wl n R))) := by
    rw [← ev_wl, fi_mul, kf_mul]; rfl
  rw [h1, fi_fw hq, kf_add, kf_mul, kf_mul, kf_mid a b k q hk ha hb hya hyb]
  grind
theorem ev_d {n : Nat} {c : List Nat} {R : List (Nat → Int)} {y : Nat → Int} {q : Nat} : ev n c R y q = kf n (q :: c) (wl n (y :: R)) := rfl
theorem ev_nil {n : Nat} {x : Nat → Int} {k : Nat} (hk : k < n) : ev n [] [] x k = x k := by
  unfold ev
  rw [fi_fw hk, kf_add, kf_mul, kf_mul]
  have h1 : kf n [] (wl n []) = 1 := sc_one n
  have h2 : kf n [] (fw n x (fi n k (wl n []))) = 0 := sc_fw n _ _
  rw [h1, h2]; omega
/-! ### bounds -/
theorem kf_sq (n : Nat) (c : List Nat) (a : Form n) : kf n c a * kf n c a ≤ nrm n a := by
  induction c generalizing a with
  | nil => exact sc_le n a
  | cons q c ih => exact Int.le_trans (ih _) (nrm_fi n q a)
theorem nrm_wl (n : Nat) (l : List (Nat → Int)) (B : Int) (hB : 0 ≤ B) (h : ∀ x ∈ l, sq n x ≤ B) : nrm n (wl n l) ≤ B ^ l.length := by
  induction l with
  | nil => show nrm n (one n) ≤ _; rw [nrm_one]; simp
  | cons x l ih =>
    have h1 := ih fun y hy => h y (by simp [hy])
    have h2 := nrm_fw n x (wl n l)
    have h3 := nrm_nonneg n (wl n l)
    have h4 : sq n x * nrm n (wl n l) ≤ B * nrm n (wl n l) := Int.mul_le_mul_of_nonneg_right (h x (by simp)) h3
    have h5 : B * nrm n (wl n l) ≤ B * B ^ l.length := Int.mul_le_mul_of_nonneg_left h1 hB
    rw [List.length_cons, Int.pow_succ, Int.mul_comm]
    exact Int.le_trans h2 (Int.le_trans h4 h5)

/-- the product of some vectors out of X, under a linear map -/
def tf (n : Nat) : (r : Nat) → (Nat → Nat → Int) → (Form n → Int) → Form r
  | 0, _, L => L (one n)
  | r + 1, X, L => (tf n r X L, tf n r X fun a => L (fw n (X r) a))
/-- the first r vectors of X, the last one outermost -/
def rows (X : Nat → Nat → Int) : Nat → List (Nat → Int)
  | 0 => []
  | r + 1 => X r :: rows X r
/-! ### no more independent vectors than coordinates -/
def gr : (n : Nat) → Nat → Form n → Prop
  | 0, g, a => g ≠ 0 → a = fz 0
  | n + 1, g, a => gr n g (lo a) ∧ (g = 0 → hi a = fz n) ∧ (∀ g', g = g' + 1 → gr n g' (hi a))
theorem gr_fz (n g : Nat) : gr n g (fz n) := by
  induction n generalizing g with
  | zero => exact fun _ => rfl
  | succ n ih => exact ⟨ih g, fun _ => rfl, fun g' _ => ih g'⟩
theorem gr_add {n g : Nat} {a b : Form n} (h : gr n g a) (k : gr n g b) : gr n g (fadd n a b) := by
  induction n generalizing g with
  | zero => exact fun hg => by rw [h hg, k hg]; exact fadd_fz 0
  | succ n ih => exact ⟨ih h.1 k.1, fun hg => by rw [hi_add, h.2.1 hg, k.2.1 hg, fadd_fz], fun g' hg => ih (h.2.2 g' hg) (k.2.2 g' hg)⟩
theorem gr_mul {n g : Nat} {c : Int} {a : Form n} (h : gr n g a) : gr n g (fmul n c a) := by
  induction n generalizing g with
  | zero => exact fun hg => by rw [h hg, fmul_fz]
  | succ n ih => exact ⟨ih h.1, fun hg => by rw [hi_mul, h.2.1 hg, fmul_fz], fun g' hg => ih (h.2.2 g' hg)⟩
theorem gr_fw {n g : Nat} {x : Nat → Int} {a : Form n} (h : gr n g a) : gr n (g + 1) (fw n x a) := by
  induction n generalizing g with
  | zero => exact fun _ => rfl
  | succ n ih =>
    refine ⟨ih h.1, fun hg => by omega, fun g' hg => ?_⟩
    obtain rfl : g' = g := by omega
    rw [hi_fw]
    refine gr_add (gr_mul h.1) (gr_mul ?_)
    cases g' with
    | zero => rw [h.2.1 rfl, fw_fz]; exact gr_fz n 0
    | succ g' => exact ih (h.2.2 g' rfl)
theorem gr_one (n : Nat) : gr n 0 (one n) := by
  induction n with
  | zero => exact fun h => absurd rfl h
  | succ n ih => exact ⟨ih, fun _ => rfl, fun g' h => by omega⟩
theorem gr_long {n g : Nat} {a : Form n} (h : gr n g a) (hg : n < g) : a = fz n := by
  induction n generalizing g with
  | zero => exact h (by omega)
  | succ n ih => exact fext (ih h.1 (by omega)) (ih (h.2.2 (g - 1) (by omega)) (by omega))
theorem gr_wl (n : Nat) (l : List (Nat → Int)) : gr n l.length (wl n l) := by
  induction l with
  | nil => exact gr_one n
  | cons x l ih => exact gr_fw ih
theorem wl_long {n : Nat} {l : List (Nat → Int)} (h : n < l.length) : wl n l = fz n := gr_long (gr_wl n l) h

def dt : Nat → (Nat → Int) → (Nat → Int) → Int
  | 0, _, _ => 0
  | n + 1, x, y => dt n x y + x n * y n
theorem lo_fv (n : Nat) (x : Nat → Int) (a : Form (n + 1)) : lo (fv (n + 1) x a) = fadd n (fv n x (lo a)) (fmul n (x n) (hi a)) := rfl
theorem hi_fv (n : Nat) (x : Nat → Int) (a : Form (n + 1)) : hi (fv (n + 1) x a) = fmul n (-1) (fv n x (hi a)) := rfl
theorem fv_add (n : Nat) (x : Nat → Int) (a b : Form n) : fv n x (fadd n a b) = fadd n (fv n x a) (fv n x b) := by
  induction n with
  | zero => rfl
  | succ n ih =>
    refine fext ?_ ?_
    · simp only [lo_fv, lo_add, hi_add, ih]; exact co_ext fun s => by simp only [co_add, co_mul]; grind
    · simp only [hi_fv, hi_add, ih]; exact co_ext fun s => by simp only [co_add, co_mul]; grind
theorem fv_mul (n : Nat) (x : Nat → Int) (c : Int) (a : Form n) : fv n x (fmul n c a) = fmul n c (fv n x a) := by
  induction n with
  | zero => exact (Int.mul_zero c).symm
  | succ n ih =>
    refine fext ?_ ?_
    · simp only [lo_fv, lo_mul, hi_mul, ih]; exact co_ext fun s => by simp only [co_add, co_mul]; grind
    · simp only [hi_fv, hi_mul, ih]; exact co_ext fun s => by simp only [co_mul]; grind
theorem fv_fz (n : Nat) (x : Nat → Int) : fv n x (fz n) = fz n := by
  have h := fv_mul n x 0 (fz n)
  rw [fmul_fz] at h
  exact co_ext fun s => by rw [h, co_mul, co_fz, Int.zero_mul]
theorem fv_one (n : Nat) (x : Nat → Int) : fv n x (one n) = fz n := by
  induction n with
  | zero => rfl
  | succ n ih =>
    refine fext ?_ ?_
    · rw [lo_fv, show lo (one (n + 1)) = one n from rfl, show hi (one (n + 1)) = fz n from rfl, ih, fmul_fz, fadd_fz]; rfl
    · rw [hi_fv, show hi (one (n + 1)) = fz n from rfl, fv_fz, fmul_fz]; rfl
theorem fv_fw (n : Nat) (t x : Nat → Int) (a : Form n) : fv n t (fw n x a) = fadd n (fmul n (dt n t x) a) (fmul n (-1) (fw n x (fv n t a))) := by
  induction n with
  | zero => exact (Int.zero_mul a).symm.trans (Int.add_zero _).symm
  | succ n ih =>
    refine fext ?_ ?_
    · simp only [lo_fv, lo_fw, hi_fw, lo_add, lo_mul, fw_add, fw_mul, ih, dt]
      exact co_ext fun s => by simp only [co_add, co_mul]; grind
    · simp only [hi_fv, hi_fw, hi_add, hi_mul, fv_add, fv_mul, lo_fv, fw_mul, ih, dt]
      exact co_ext fun s => by simp only [co_add, co_mul]; grind
theorem fv_wl {n : Nat} {t : Nat → Int} {l : List (Nat → Int)} (h : ∀ x ∈ l, dt n t x = 0) : fv n t (wl n l) = fz n := by
  induction l with
  | nil => exact fv_one n t
  | cons x l ih =>
    show fv n t (fw n x (wl n l)) = _
    rw [fv_fw, ih fun y hy => h y (by simp [hy]), h x (by simp), fw_fz]
    exact co_ext fun s => by simp [co_add, co_mul, co_fz]
/-- a vector that is orthogonal to all -/
theorem nrm_orth {n : Nat} {t : Nat → Int} {l : List (Nat → Int)} (h : ∀ x ∈ l, dt n t x = 0) : nrm n (wl n (t :: l)) = sq n t * nrm n (wl n l) := by
  have h1 := nrm_both n t (wl n l)
  rw [fv_wl h, nrm_fz] at h1
  show nrm n (fw n t (wl n l)) = _
  omega
/-- vectors to which some are orthogonal: they depend on one another if there are too many -/
theorem wl_orth {n : Nat} (ts : List (Nat → Int)) {l : List (Nat → Int)} (ho : ∀ t ∈ ts, ∀ x ∈ l, dt n t x = 0) (hp : ts.Pairwise fun t u => dt n t u = 0) (hs : ∀ t ∈ ts, 0 < sq n t) (hl : n < ts.length + l.length) : nrm n (wl n l) = 0 := by
  have key : ∀ us : List (Nat → Int), (∀ t ∈ us, ∀ x ∈ l, dt n t x = 0) → (us.Pairwise fun t u => dt n t u = 0) → (∀ t ∈ us, 0 < sq n t) → (nrm n (wl n (us ++ l)) = 0 → nrm n (wl n l) = 0) := by
    intro us
    induction us with
    | nil => intro _ _ _ h; exact h
    | cons t us ih =>
      intro h1 h2 h3 h4
      obtain ⟨h5, h6⟩ := List.pairwise_cons.1 h2
      refine ih (fun u hu => h1 u (by simp [hu])) h6 (fun u hu => h3 u (by simp [hu])) ?_
      rw [List.cons_append, nrm_orth (fun x hx => by
        rcases List.mem_append.1 hx with hx | hx
        · exact h5 x hx
        · exact h1 t (by simp) x hx)] at h4
      rcases Int.mul_eq_zero.1 h4 with h | h
      · have := h3 t (by simp); omega
      · exact h
  refine key ts ho hp hs ?_
  rw [wl_long (by simpa using hl), nrm_fz]
end Gr

