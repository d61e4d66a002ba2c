/- Plain mathematics: the elimination keeps kernel and span, the rank of the transposed matrix, the vectors of the null space. No condition. -/
import Derived.Test.YtfbmpkdjhhcnpaaMoP18
namespace Gr
set_option linter.unusedVariables false
set_option linter.unusedSimpArgs false
theorem sm_mul (n : Nat) (c : Int) (f : Nat → Int) : sm n (fun i => c * f i) = c * sm n f := by
  induction n with
  | zero => simp [sm]
  | succ n ih => simp only [sm, ih, Int.mul_add]
theorem sm_sub (n : Nat) (f g : Nat → Int) : sm n (fun i => f i - g i) = sm n f - sm n g := by
  induction n with
  | zero => rfl
  | succ n ih => simp only [sm, ih]; omega
theorem dt_congr {n : Nat} {x y v : Nat → Int} (h : ∀ k, k < n → x k = y k) : dt n x v = dt n y v := by
  rw [dt_sm, dt_sm]; exact sm_congr fun k hk => by rw [h k hk]
theorem dt_congr' {n : Nat} {x u v : Nat → Int} (h : ∀ k, k < n → u k = v k) : dt n x u = dt n x v := by
  rw [dt_sm, dt_sm]; exact sm_congr fun k hk => by rw [h k hk]
theorem dt_lin (n : Nat) (a b : Int) (x y v : Nat → Int) : dt n (fun k => a * x k - b * y k) v = a * dt n x v - b * dt n y v := by
  rw [dt_sm, dt_sm, dt_sm, ← sm_mul, ← sm_mul, ← sm_sub]
  exact sm_congr fun k _ => by grind
theorem dt_scale (n : Nat) (a : Int) (x v : Nat → Int) : dt n x (fun k => a * v k) = a * dt n x v := by
  rw [dt_sm, dt_sm, ← sm_mul]
  exact sm_congr fun k _ => by grind
theorem dt_scale' (n : Nat) (a : Int) (x v : Nat → Int) : dt n (fun k => a * x k) v = a * dt n x v := by
  rw [dt_sm, dt_sm, ← sm_mul]
  exact sm_congr fun k _ => by grind
/-- some vector is taken to zero by all rows -/
def Ker (m n : Nat) (F : Nat → Nat → Int) (v : Nat → Int) : Prop := ∀ i, i < m → dt n (F i) v = 0
theorem Inv.ker {m n : Nat} {F0 : Nat → Nat → Int} {s : ES} {X : Nat → Nat → Int} (h : Inv m n F0 s X) {c : Nat} (hc : c < n) {v : Nat → Int} (hk : Ker m n (stepF m c s).F v) : Ker m n s.F v := by
  unfold stepF at hk
  by_cases h1 : s.P.length < m
  · rw [if_pos h1] at hk
    by_cases h2 : findF s.F m c s.P.length < m
    · rw [if_pos h2] at hk
      have hp := findF_ge s.F m c s.P.length
      have hne := findF_ne h2
      generalize findF s.F m c s.P.length = p at *
      change Ker m n (elimF (swapF s.F s.P.length p) s.P.length c s.d) v at hk
      have hA : swapF s.F s.P.length p s.P.length c ≠ 0 := by unfold swapF; rw [if_pos rfl]; exact hne
      have hr : dt n (swapF s.F s.P.length p s.P.length) v = 0 := by
        rw [← hk _ h1]
        exact dt_congr fun k _ => by unfold elimF; rw [if_pos rfl]
      have hG : ∀ i, i < m → dt n (swapF s.F s.P.length p i) v = 0 := fun i hi => by
        by_cases e : i = s.P.length
        · rw [e]; exact hr
        · have e1 : dt n (fun k => s.d * elimF (swapF s.F s.P.length p) s.P.length c s.d i k) v = dt n (fun k => swapF s.F s.P.length p s.P.length c * swapF s.F s.P.length p i k - swapF s.F s.P.length p i c * swapF s.F s.P.length p s.P.length k) v :=
            dt_congr fun k hk2 => elim_mul h hc hp h2 hi e hk2
          rw [dt_scale', dt_lin, hr] at e1
          have e2 := hk i hi
          rw [show dt n (elimF (swapF s.F s.P.length p) s.P.length c s.d i) v = 0 from e2, Int.mul_zero, Int.mul_zero, Int.sub_zero] at e1
          rcases Int.mul_eq_zero.1 e1.symm with e3 | e3
          · exact absurd e3 hA
          · exact e3
      intro i hi
      by_cases e1 : i = s.P.length
      · subst e1
        have := hG p h2
        unfold swapF at this
        by_cases e : p = s.P.length
        · rw [if_pos e] at this; rw [e] at this; exact this
        · rw [if_neg e, if_pos rfl] at this; exact this
      · by_cases e2 : i = p
        · subst e2
          have := hG _ h1
          unfold swapF at this
          rw [if_pos rfl] at this; exact this
        · have := hG i hi
          unfold swapF at this
          rw [if_neg e1, if_neg e2] at this; exact this
    · rw [if_neg h2] at hk; exact hk
  · rw [if_neg h1] at hk; exact hk
theorem ker_red {m n : Nat} (F : Nat → Nat → Int) {v : Nat → Int} : ∀ c, c ≤ n → Ker m n (redF m F c).F v → Ker m n F v
  | 0, _, h => h
  | c + 1, hc, h => by
    obtain ⟨X, hI⟩ := Inv.all (m := m) (n := n) F (c := c) (by omega)
    exact ker_red F c (by omega) (hI.ker (by omega) h)
/-- a multiple of a row is a sum of multiples of the first rows -/
def Spn (m n : Nat) (F : Nat → Nat → Int) (x : Nat → Int) : Prop := ∃ a : Int, a ≠ 0 ∧ ∃ u : Nat → Int, ∀ k, k < n → a * x k = sm m fun i => u i * F i k
theorem Spn.row {m n : Nat} {F : Nat → Nat → Int} {i : Nat} (hi : i < m) : Spn m n F (F i) := by
  refine ⟨1, by decide, fun j => if j = i then 1 else 0, fun k _ => ?_⟩
  rw [Int.one_mul, ← sm_single hi (F i k)]
  refine sm_congr fun j _ => ?_
  by_cases e : j = i
  · show (if j = i then F i k else 0) = (if j = i then 1 else 0) * F j k
    rw [if_pos e, if_pos e, e, Int.one_mul]
  · show (if j = i then F i k else 0) = (if j = i then 1 else 0) * F j k
    rw [if_neg e, if_neg e, Int.zero_mul]
theorem Spn.comb {m n : Nat} {F : Nat → Nat → Int} {x y z : Nat → Int} {d a b : Int} (hd : d ≠ 0) (hx : Spn m n F x) (hy : Spn m n F y) (h : ∀ k, k < n → d * z k = a * x k - b * y k) : Spn m n F z := by
  obtain ⟨s, hs, u, hu⟩ := hx
  obtain ⟨t, ht, w, hw⟩ := hy
  refine ⟨s * t * d, Int.mul_ne_zero (Int.mul_ne_zero hs ht) hd, fun i => a * t * u i - b * s * w i, fun k hk => ?_⟩
  have e1 := hu k hk
  have e2 := hw k hk
  have e3 := h k hk
  have e4 : (sm m fun i => (a * t * u i - b * s * w i) * F i k) = a * t * (sm m fun i => u i * F i k) - b * s * (sm m fun i => w i * F i k) := by
    rw [← sm_mul, ← sm_mul, ← sm_sub]
    exact sm_congr fun i _ => by grind
  rw [e4, ← e1, ← e2]
  grind
theorem Inv.spn {m n : Nat} {F0 : Nat → Nat → Int} {s : ES} {X : Nat → Nat → Int} (h : Inv m n F0 s X) {c : Nat} (hc : c < n) (hS : ∀ i, i < m → Spn m n F0 (s.F i)) : ∀ i, i < m → Spn m n F0 ((stepF m c s).F i) := by
  intro i hi
  unfold stepF
  by_cases h1 : s.P.length < m
  · rw [if_pos h1]
    by_cases h2 : findF s.F m c s.P.length < m
    · rw [if_pos h2]
      have hp := findF_ge s.F m c s.P.length
      generalize findF s.F m c s.P.length = p at *
      show Spn m n F0 (elimF (swapF s.F s.P.length p) s.P.length c s.d i)
      have hG : ∀ j, j < m → Spn m n F0 (swapF s.F s.P.length p j) := fun j hj => by
        unfold swapF
        split
        · exact hS p h2
        · split
          · exact hS _ h1
          · exact hS j hj
      by_cases e : i = s.P.length
      · have e2 : elimF (swapF s.F s.P.length p) s.P.length c s.d i = swapF s.F s.P.length p s.P.length := by
          funext k; unfold elimF; rw [if_pos e]
        rw [e2]; exact hG _ h1
      · exact Spn.comb h.nz (hG i hi) (hG _ h1) fun k hk => elim_mul h hc hp h2 hi e hk
    · rw [if_neg h2]; exact hS i hi
  · rw [if_neg h1]; exact hS i hi
theorem spn_red {m n : Nat} (F : Nat → Nat → Int) : ∀ c, c ≤ n → ∀ i, i < m → Spn m n F ((redF m F c).F i)
  | 0, _, i, hi => Spn.row hi
  | c + 1, hc, i, hi => by
    obtain ⟨X, hI⟩ := Inv.all (m := m) (n := n) F (c := c) (by omega)
    exact hI.spn (by omega) (spn_red F c (by omega)) i hi
theorem findF_none {F : Nat → Nat → Int} {m c p : Nat} (hp : p ≤ m) (h : ¬ findF F m c p < m) : ∀ i, p ≤ i → i < m → F i c = 0 := by
  fun_induction findF F m c p
  · rename_i p hlt h0 ih
    intro i h1 h2
    by_cases e : i = p
    · subst e; exact h0
    · exact ih (by omega) h i (by omega) h2
  · rename_i hlt h0; exact absurd hlt h
  · intro i h1 h2; omega
theorem redF_len' {m : Nat} (F : Nat → Nat → Int) (c : Nat) : (redF m F c).P.length ≤ m := by
  obtain ⟨X, h⟩ := Inv.all (m := m) (n := c) F (Nat.le_refl c)
  exact h.len
/-- the rows behind the pivots have zeros so far -/
theorem red_low {m n : Nat} (F : Nat → Nat → Int) : ∀ c, c ≤ n → ∀ i, (redF m F c).P.length ≤ i → i < m → ∀ k, k < c → (redF m F c).F i k = 0
  | 0, _, _, _, _, k, hk => absurd hk (Nat.not_lt_zero _)
  | c + 1, hc, i, h1, h2, k, hk => by
    obtain ⟨X, h⟩ := Inv.all (m := m) (n := n) F (c := c) (by omega)
    have ih := red_low (m := m) (n := n) F c (by omega)
    have hl := redF_len' (m := m) F c
    simp only [redF] at h1 ⊢
    generalize redF m F c = s at *
    unfold stepF at h1 ⊢
    by_cases c1 : s.P.length < m
    · rw [if_pos c1] at h1 ⊢
      by_cases c2 : findF s.F m c s.P.length < m
      · rw [if_pos c2] at h1 ⊢
        have hp := findF_ge s.F m c s.P.length
        have hne := findF_ne c2
        generalize findF s.F m c s.P.length = p at *
        have h1' : s.P.length + 1 ≤ i := by
          have : (s.P ++ [c]).length = s.P.length + 1 := by simp
          rw [← this]; exact h1
        show elimF (swapF s.F s.P.length p) s.P.length c s.d i k = 0
        have e := elim_mul h (show c < n by omega) hp c2 h2 (show i ≠ s.P.length by omega) (show k < n by omega)
        have hz : s.d * elimF (swapF s.F s.P.length p) s.P.length c s.d i k = 0 := by
          rw [e]
          by_cases ek : k = c
          · subst ek; grind
          · have g1 : swapF s.F s.P.length p i k = 0 := by
              unfold swapF
              rw [if_neg (by omega)]
              split
              · exact ih _ (Nat.le_refl _) c1 k (by omega)
              · exact ih i (by omega) h2 k (by omega)
            have g2 : swapF s.F s.P.length p s.P.length k = 0 := by
              unfold swapF
              rw [if_pos rfl]
              exact ih p hp c2 k (by omega)
            rw [g1, g2]; grind
        rcases Int.mul_eq_zero.1 hz with e1 | e1
        · exact absurd e1 h.nz
        · exact e1
      · rw [if_neg c2] at h1 ⊢
        by_cases ek : k = c
        · subst ek
          exact findF_none hl c2 i h1 h2
        · exact ih i h1 h2 k (by omega)
    · rw [if_neg c1] at h1 ⊢
      omega
/-- a row's number at another row's column -/
theorem Inv.off {m n : Nat} {F0 : Nat → Nat → Int} {s : ES} {X : Nat → Nat → Int} (h : Inv m n F0 s X) {i k : Nat} (hi : i < s.P.length) (hk : k ∈ s.P) (hne : k ≠ s.P[i]) : s.F i k = 0 := by
  rw [h.up i hi k (h.cols k hk)]
  refine nv_mem ?_ _
  have e4 : s.P = s.P.take i ++ s.P[i] :: s.P.drop (i + 1) := by
    rw [← List.drop_eq_getElem_cons hi, List.take_append_drop]
  rw [e4] at hk
  rcases List.mem_append.1 hk with h1 | h1
  · exact .inr (List.mem_reverse.2 h1)
  · rcases List.mem_cons.1 h1 with h2 | h2
    · exact absurd h2 hne
    · exact .inl (List.mem_reverse.2 h2)
/-- the vectors of the null space are taken to zero -/
theorem ker_vI {m n : Nat} (F : Nat → Nat → Int) {free : Nat} (hf : free < n) (hn : free ∉ (redF m F n).P) : Ker m n F (vI (redF m F n) free) := by
  refine ker_red F n (Nat.le_refl _) ?_
  obtain ⟨X, h⟩ := Inv.all (m := m) (n := n) F (Nat.le_refl n)
  have hlow := red_low (m := m) (n := n) F n (Nat.le_refl _)
  have hP := (redF_P (m := m) F n).2
  generalize redF m F n = s at *
  intro i hi
  by_cases hl : s.P.length ≤ i
  · rw [dt_sm]
    exact sm_zero fun k hk => by rw [hlow i hl hi k hk, Int.zero_mul]
  · have hl : i < s.P.length := by omega
    have hc := h.cols _ (List.getElem_mem hl)
    have e : dt n (s.F i) (vI s free) = sm n fun k => (if k = free then s.F i free * s.d else 0) + (if k = s.P[i] then -(s.F i free * s.d) else 0) := by
      rw [dt_sm]
      refine sm_congr fun k hk => ?_
      unfold vI
      by_cases e1 : k = free
      · subst e1
        have : k ≠ s.P[i] := fun e2 => hn (by rw [e2]; exact List.getElem_mem hl)
        rw [if_pos rfl, if_pos rfl, if_neg this, Int.add_zero]
      · rw [if_neg e1, if_neg e1, Int.zero_add]
        by_cases e2 : k = s.P[i]
        · rw [if_pos e2, if_pos (by rw [e2]; exact List.getElem_mem hl)]
          have e3 : s.P.idxOf k = i := by rw [e2]; exact hP.idxOf_getElem i hl
          rw [e3, e2, h.pivot hl]
          grind
        · rw [if_neg e2]
          by_cases e3 : k ∈ s.P
          · rw [h.off hl e3 e2, Int.zero_mul]
          · rw [if_neg e3, Int.mul_zero]
    rw [e, sm_add, sm_single hf, sm_single hc]
    omega
theorem ker_prim {m n : Nat} {F : Nat → Nat → Int} {v : Nat → Int} (h : Ker m n F v) : Ker m n F (primF n v) := by
  intro i hi
  obtain ⟨a, ha, hv⟩ := primF_of n v
  have h1 := h i hi
  rw [dt_congr' hv, dt_scale] at h1
  rcases Int.mul_eq_zero.1 h1 with e | e
  · exact absurd e ha
  · exact e
/-- more rows than columns: a sum of multiples that is zero -/
theorem dep : ∀ (r : Nat) (A : Nat → Nat → Int) (q : Nat), r < q → ∃ c : Nat → Int, (∃ j, j < q ∧ c j ≠ 0) ∧ ∀ k, k < r → (sm q fun j => c j * A j k) = 0
  | 0, A, q, hq => ⟨fun j => if j = 0 then 1 else 0, ⟨0, hq, by simp⟩, fun k hk => absurd hk (Nat.not_lt_zero _)⟩
  | r + 1, A, q + 1, hq => by
    by_cases hall : ∀ j, j < q + 1 → A j r = 0
    · obtain ⟨c, hc, hs⟩ := dep r A (q + 1) (by omega)
      refine ⟨c, hc, fun k hk => ?_⟩
      by_cases e : k = r
      · subst e
        exact sm_zero fun j hj => by rw [hall j hj, Int.mul_zero]
      · exact hs k (by omega)
    · obtain ⟨p, hp⟩ := Classical.not_forall.1 hall
      obtain ⟨hp, hne⟩ := Classical.not_imp.1 hp
      -- the rows, with p last
      let σ : Nat → Nat := fun j => if j = p then q else if j = q then p else j
      have hσ : ∀ j, j < q + 1 → σ j < q + 1 ∧ σ (σ j) = j := fun j hj => by
        show (if j = p then q else if j = q then p else j) < q + 1 ∧ (if (if j = p then q else if j = q then p else j) = p then q else if (if j = p then q else if j = q then p else j) = q then p else (if j = p then q else if j = q then p else j)) = j
        constructor
        · split <;> (try split) <;> omega
        · split <;> (try split) <;> (try split) <;> (try split) <;> omega
      have hσq : σ q = p := by
        show (if q = p then q else if q = q then p else q) = p
        split <;> (try split) <;> omega
      let B : Nat → Nat → Int := fun j k => A p r * A (σ j) k - A (σ j) r * A p k
      obtain ⟨c, ⟨j0, hj0, hcj⟩, hs⟩ := dep r B q (by omega)
      let c2 : Nat → Int := fun j => if j < q then c j * A p r else -(sm q fun i => c i * A (σ i) r)
      have hc2 : ∀ k, k < r + 1 → (sm (q + 1) fun j => c2 j * A (σ j) k) = 0 := fun k hk => by
        have e1 : (sm q fun j => c2 j * A (σ j) k) = (sm q fun j => c j * B j k) + (sm q fun i => c i * A (σ i) r) * A p k := by
          have e2 : (sm q fun i => c i * A (σ i) r) * A p k = sm q fun i => A p k * (c i * A (σ i) r) := by rw [sm_mul, Int.mul_comm]
          rw [e2, ← sm_add]
          refine sm_congr fun j hj => ?_
          show (if j < q then c j * A p r else _) * A (σ j) k = c j * (A p r * A (σ j) k - A (σ j) r * A p k) + A p k * (c j * A (σ j) r)
          rw [if_pos hj]
          grind
        have e3 : (sm q fun j => c j * B j k) = 0 := by
          by_cases e : k = r
          · subst e
            refine sm_zero fun j hj => ?_
            show c j * (A p k * A (σ j) k - A (σ j) k * A p k) = 0
            grind
          · exact hs k (by omega)
        show (sm q fun j => c2 j * A (σ j) k) + c2 q * A (σ q) k = 0
        rw [e1, e3, hσq]
        show 0 + (sm q fun i => c i * A (σ i) r) * A p k + (if q < q then c q * A p r else -(sm q fun i => c i * A (σ i) r)) * A p k = 0
        rw [if_neg (by omega)]
        grind
      refine ⟨fun j => c2 (σ j), ⟨σ j0, (hσ j0 (by omega)).1, ?_⟩, fun k hk => ?_⟩
      · show c2 (σ (σ j0)) ≠ 0
        rw [(hσ j0 (by omega)).2]
        show (if j0 < q then c j0 * A p r else _) ≠ 0
        rw [if_pos hj0]
        exact Int.mul_ne_zero hcj hne
      · have e1 := sm_perm (m := q + 1) (f := σ) (g := σ) hσ hσ fun j => c2 j * A (σ j) k
        rw [← hc2 k hk, ← e1]
        refine sm_congr fun j hj => ?_
        show c2 (σ j) * A j k = c2 (σ j) * A (σ (σ j)) k
        rw [(hσ j hj).2]
/-- the rank of the rows is at most that of the columns -/
theorem rank_le {m n : Nat} {F G : Nat → Nat → Int} (hG : ∀ i, i < m → ∀ k, k < n → G k i = F i k) : (redF n G m).P.length ≤ (redF m F n).P.length := by
  refine Nat.le_of_not_lt fun hlt => ?_
  have hlow := red_low (m := m) (n := n) F n (Nat.le_refl _)
  have hlen := redF_len' (m := m) F n
  have hlen' := redF_len' (m := n) G m
  have hspn := spn_red (m := n) (n := m) G m (Nat.le_refl _)
  obtain ⟨X, hI⟩ := Inv.all (m := n) (n := m) G (Nat.le_refl m)
  have hker := fun v => ker_red (m := m) (n := n) F (v := v) n (Nat.le_refl _)
  have hPn := (redF_P (m := n) G m).2
  generalize redF m F n = R at *
  generalize redF n G m = R' at *
  -- the multipliers
  have hsp : ∀ j, ∃ a : Int, ∃ u : Nat → Int, j < R'.P.length → a ≠ 0 ∧ ∀ i, i < m → a * R'.F j i = sm n fun k => u k * G k i := fun j => by
    by_cases hj : j < R'.P.length
    · obtain ⟨a, ha, u, hu⟩ := hspn j (by omega)
      exact ⟨a, u, fun _ => ⟨ha, hu⟩⟩
    · exact ⟨0, fun _ => 0, fun h => absurd h hj⟩
  obtain ⟨a, ha⟩ := Classical.axiomOfChoice hsp
  obtain ⟨u, hu⟩ := Classical.axiomOfChoice ha
  obtain ⟨c, ⟨j0, hj0, hcj⟩, hs⟩ := dep R.P.length (fun j i => dt n (R.F i) (u j)) R'.P.length hlt
  let v : Nat → Int := fun k => sm R'.P.length fun j => c j * u j k
  have hdv : ∀ x : Nat → Int, dt n x v = sm R'.P.length fun j => c j * dt n x (u j) := fun x => by
    rw [dt_sm]
    have e1 : (sm n fun k => x k * v k) = sm n fun k => sm R'.P.length fun j => c j * (x k * u j k) := sm_congr fun k _ => by
      show x k * (sm R'.P.length fun j => c j * u j k) = _
      rw [← sm_mul]
      exact sm_congr fun j _ => by grind
    rw [e1, sm_swap]
    exact sm_congr fun j _ => by rw [dt_sm, ← sm_mul]
  have hK : Ker m n R.F v := fun i hi => by
    by_cases hl : R.P.length ≤ i
    · rw [dt_sm]
      exact sm_zero fun k hk => by rw [hlow i hl hi k hk, Int.zero_mul]
    · rw [hdv]
      exact hs i (by omega)
  have hF := hker v hK
  have hR : ∀ i, i < m → (sm R'.P.length fun j => c j * (a j * R'.F j i)) = 0 := fun i hi => by
    have e1 := hF i hi
    rw [hdv] at e1
    rw [← e1]
    refine sm_congr fun j hj => ?_
    have e2 := (hu j hj).2 i hi
    rw [e2, dt_sm]
    congr 1
    exact sm_congr fun k hk => by rw [hG i hi k hk, Int.mul_comm]
  have e3 := hR _ (hI.cols _ (List.getElem_mem hj0))
  have e4 : (sm R'.P.length fun j => c j * (a j * R'.F j R'.P[j0])) = sm R'.P.length fun j => if j = j0 then c j0 * (a j0 * R'.d) else 0 := sm_congr fun j hj => by
    by_cases e : j = j0
    · subst e
      rw [if_pos rfl, hI.pivot hj]
    · rw [if_neg e, hI.off hj (List.getElem_mem hj0) (fun e2 => e ((List.getElem_inj hPn).1 e2).symm), Int.mul_zero, Int.mul_zero]
  rw [e4, sm_single hj0] at e3
  rcases Int.mul_eq_zero.1 e3 with e | e
  · exact hcj e
  · rcases Int.mul_eq_zero.1 e with e | e
    · exact (hu j0 hj0).1 e
    · exact hI.nz e
theorem rank_tr {m n : Nat} {F G : Nat → Nat → Int} (hG : ∀ i, i < m → ∀ k, k < n → G k i = F i k) : (redF n G m).P.length = (redF m F n).P.length :=
  Nat.le_antisymm (rank_le hG) (rank_le fun i hi k hk => (hG k hk i hi).symm)
end Gr

